/- The rules once more, with cuts: where ways of a function meet again (behind an if, a switch, a loop), what is known may be told once for all of them. -/
import Derived.Test.YtdhbpklmkibmbaaGreatVcI
namespace Go.Vc

noncomputable def isMerge (c : Code) : Bool :=
  Code.rec (motive := fun _ => Bool) false (fun _ _ _ => false) (fun _ _ _ ib => ib) (fun _ _ _ _ _ => true) (fun _ _ _ => true) (fun _ _ => false) (fun _ _ _ _ _ _ => false) (fun _ => false) (fun _ _ => false) (fun _ => false) (fun _ => false) false (fun _ => false) c
noncomputable def CutK (K : Ex → Env → World → Prop) (M : Env → World → Prop) : Ex → Env → World → Prop := fun e ρ w => Ex.rec (M ρ w) (fun i => K (.exit i) ρ w) (K .ret ρ w) e
def CutC (body : (Ex → Env → World → Prop) → Prop) (K : Ex → Env → World → Prop) : Prop :=
  body K ∨ ∃ M : Env → World → Prop, body (CutK K M) ∧ ∀ (n : Nat) (ρ : Env) (a : Act) (w : World), ρ.Ok n a → M ρ w → ∃ ρ', Env.Ok n ρ' a ∧ K .norm ρ' w
theorem CutC_elim {body : (Ex → Env → World → Prop) → Prop} {K : Ex → Env → World → Prop} (h : CutC body K) :
  body K ∨ ∃ M : Env → World → Prop, body (CutK K M) ∧ ∀ (n : Nat) (ρ : Env) (a : Act) (w : World), ρ.Ok n a → M ρ w → ∃ ρ', Env.Ok n ρ' a ∧ K .norm ρ' w := h
/-- No cut. -/
theorem Cut_no {body : (Ex → Env → World → Prop) → Prop} {K : Ex → Env → World → Prop} (h : body K) : CutC body K := .inl h
/-- A cut: the ways end with `J`; from `J` on it goes once. -/
theorem Cut {body : (Ex → Env → World → Prop) → Prop} {K : Ex → Env → World → Prop} {α : Type} (mk : α → Env) (J : α → World → Prop) (h : body (CutK K fun ρ w => ∃ x, Sub (mk x) ρ ∧ J x w)) (k : ∀ x w, J x w → K .norm (mk x) w) : CutC body K :=
  .inr ⟨_, h, fun _ _ _ w hρ ⟨x, hs, hj⟩ => ⟨mk x, hρ.sub hs, k x w hj⟩⟩
attribute [irreducible] CutC

noncomputable def codeVU (P : Program) (T : Tab) (c : Code) : Env → World → (Ex → Env → World → Prop) → Prop :=
  Code.rec (motive := fun _ => Env → World → (Ex → Env → World → Prop) → Prop)
    (fun ρ w K => K .norm ρ w)
    (fun _ ops draw ρ w K => Bool.rec (opsVC P T ops.toList ops.toList ρ w (K .norm)) (AnyC P ops ρ w (K .norm)) draw)
    (fun a _ ia ib ρ w K => Bool.rec (ia ρ w fun e ρ' w' => Ex.rec (ib ρ' w' K) (fun i => K (.exit i) ρ' w') (K .ret ρ' w') e)
      (CutC (ia ρ w) fun e ρ' w' => Ex.rec (ib ρ' w' K) (fun i => K (.exit i) ρ' w') (K .ret ρ' w') e) (isMerge a))
    (fun c _ _ ix iy ρ w K => match ev ρ c with
      | some (.bool b) => Br b (ix (asn c true ρ) w K) (iy (asn c false ρ) w K)
      | _ => False)
    (fun id _ ib ρ w K => ib ρ w fun e ρ' w' => Ex.rec (K .norm ρ' w') (fun i => Bool.rec (K (.exit i) ρ' w') (K .norm ρ' w') (Nat.beq i id)) (K .ret ρ' w') e)
    (fun _ ib ρ w K => LoopC ib ρ w K)
    (fun _ _ _ _ _ _ _ _ _ => False)
    (fun id ρ w K => K (.exit id) ρ w)
    (fun _ _ _ _ _ => False)
    (fun _ ρ w K => K .norm ρ w)
    (fun _ _ _ _ => False)
    (fun ρ w K => K .ret ρ w)
    (fun _ _ _ _ => False) c
theorem codeVU_cond' {P : Program} {T : Tab} {c : Operand} {x y : Code} {ρ : Env} {w : World} {K : Ex → Env → World → Prop} : codeVU P T (.cond c x y) ρ w K = match ev ρ c with
    | some (.bool b) => Br b (codeVU P T x (asn c true ρ) w K) (codeVU P T y (asn c false ρ) w K)
    | _ => False := rfl
theorem codeVU_block' {P : Program} {T : Tab} {id : Nat} {b : Code} {ρ : Env} {w : World} {K : Ex → Env → World → Prop} : codeVU P T (.block id b) ρ w K = codeVU P T b ρ w fun e ρ' w' => match e with
    | .norm => K .norm ρ' w'
    | .exit i => (match Nat.beq i id with | true => K .norm ρ' w' | false => K (.exit i) ρ' w')
    | .ret => K .ret ρ' w' := by
  show codeVU P T b ρ w _ = _
  congr 1
  funext e ρ' w'
  cases e with
  | norm => rfl
  | ret => rfl
  | exit i => show (Bool.rec (K (.exit i) ρ' w') (K .norm ρ' w') (Nat.beq i id) : Prop) = match Nat.beq i id with | true => K .norm ρ' w' | false => K (.exit i) ρ' w'; cases Nat.beq i id <;> rfl
section
variable {P : Program} {T : Tab} {n : Nat}
theorem codeU_sound (hT : T.Ok P) : ∀ (c : Code), codeOk n c = true → ∀ (K : Ex → Env → World → Prop) (ρ : Env) (a : Act) (w : World), ρ.Ok n a → codeVU P T c ρ w K → c.wp P (QOf n K) a w := by
  intro c
  induction c with
  | skip => intro _ K ρ a w hρ h; exact wp_skip ⟨ρ, hρ, h⟩
  | label l => intro _ K ρ a w hρ h; exact wp_label ⟨ρ, hρ, h⟩
  | exit id => intro _ K ρ a w hρ h; exact wp_exit ⟨ρ, hρ, h⟩
  | ret => intro _ K ρ a w hρ h; exact wp_ret ⟨ρ, hρ, h⟩
  | region id ops draw =>
    intro hok K ρ a w hρ h
    cases draw with
    | false => exact wp_region_list (ops_sound hT (Q := QOf n K) (K := K .norm) (fun ρ' a' w' h1 h2 => ⟨ρ', h1, h2⟩) ops.toList (dsts_of hok) ρ a w hρ h)
    | true =>
      refine AnyC_elim h n a (QOf n K) hρ (dsts_of hok) (fun ρ' a' w' h1 h2 => ⟨ρ', h1, h2⟩) ?_ id
      intro e a w hq
      cases e <;> first | exact .inl rfl | exact .inr (.inl ⟨_, rfl⟩) | exact .inr (.inr rfl) | exact hq.elim
  | seq x y ihx ihy =>
    intro hok K ρ a w hρ h
    simp only [codeOk, Bool.and_eq_true] at hok
    have plain : codeVU P T x ρ w (fun e ρ' w' => Ex.rec (codeVU P T y ρ' w' K) (fun i => K (.exit i) ρ' w') (K .ret ρ' w') e) → (Code.seq x y).wp P (QOf n K) a w := by
      intro h
      refine wp_seq (Code.wp_mono ?_ (ihx hok.1 _ ρ a w hρ h))
      intro e a w hq
      cases e with
      | normal => obtain ⟨σ, h1, h2⟩ := hq; exact ihy hok.2 K σ a w h1 h2
      | exit i => exact hq
      | ret => exact hq
      | _ => exact hq.elim
    have h : (Bool.rec (codeVU P T x ρ w fun e ρ' w' => Ex.rec (codeVU P T y ρ' w' K) (fun i => K (.exit i) ρ' w') (K .ret ρ' w') e)
      (CutC (codeVU P T x ρ w) fun e ρ' w' => Ex.rec (codeVU P T y ρ' w' K) (fun i => K (.exit i) ρ' w') (K .ret ρ' w') e) (isMerge x) : Prop) := h
    cases hm : isMerge x with
    | false => rw [hm] at h; exact plain h
    | true =>
      rw [hm] at h
      rcases CutC_elim h with h | ⟨M, h, hk⟩
      · exact plain h
      · refine wp_seq (Code.wp_mono ?_ (ihx hok.1 _ ρ a w hρ h))
        intro e a w hq
        cases e with
        | normal =>
          obtain ⟨σ, h1, h2⟩ := hq
          obtain ⟨τ, h3, h4⟩ := hk n σ a w h1 h2
          exact ihy hok.2 K τ a w h3 h4
        | exit i => exact hq
        | ret => exact hq
        | _ => exact hq.elim
  | cond c x y ihx ihy =>
    intro hok K ρ a w hρ h
    simp only [codeOk, Bool.and_eq_true] at hok
    rw [codeVU_cond'] at h
    split at h
    · rename_i b hc
      have hs : ∀ t, b = t → Env.Ok n (asn c t ρ) a := by
        intro t e
        subst e
        cases c with
        | tmp t => exact hρ.same hc
        | _ => exact hρ
      refine wp_cond (hρ.ev hc) ?_
      cases b
      · exact ihy hok.2 K _ a w (hs false rfl) h
      · exact ihx hok.1 K _ a w (hs true rfl) h
    · exact h.elim
  | block id b ih =>
    intro hok K ρ a w hρ h
    rw [codeVU_block'] at h
    refine wp_block (Code.wp_mono ?_ (ih hok _ ρ a w hρ h))
    intro e a w hq
    cases e with
    | normal => exact hq
    | exit i =>
      obtain ⟨σ, h1, h2⟩ := hq
      simp only [Exit.inBlock]
      cases hb : Nat.beq i id with
      | true => simp only [hb] at h2; rw [if_pos (Nat.eq_of_beq_eq_true hb)]; exact ⟨σ, h1, h2⟩
      | false => simp only [hb] at h2; rw [if_neg (Nat.ne_of_beq_eq_false hb)]; exact ⟨σ, h1, h2⟩
    | ret => exact hq
    | _ => exact hq.elim
  | loop b ih =>
    intro hok K ρ a w hρ h
    obtain ⟨I, m, σ, hs, h0, step⟩ := LoopC_elim h
    refine wp_loop_ghost (fun m a w => ∃ ρ', Env.Ok n ρ' a ∧ I m ρ' w) m ⟨σ, hρ.sub hs, h0⟩ ?_
    intro m a w ⟨ρ', h1, h2⟩
    refine Code.wp_mono ?_ (ih hok _ ρ' a w h1 (step m ρ' w h2))
    intro e a w hq
    cases e with
    | normal => obtain ⟨τ, h3, m', σ', hm, hsub, hI⟩ := hq; exact ⟨m', hm, σ', h3.sub hsub, hI⟩
    | exit i => exact hq
    | ret => exact hq
    | _ => exact hq.elim
  | _ => intro _ K ρ a w hρ h; exact h.elim
theorem callU_sound (hT : T.Ok P) {f : FuncId} {fn : Func} {c : Code} {args : List Value} {w : World} {K : Value → World → Prop}
    (hf : P.funcs[f]? = some fn) (hb : fn.body = some c) (hc : codeOk fn.ntmps c = true) (hl : Nat.ble args.length fn.ntmps = true)
    (h : codeVU P T c (envOf args 0) w fun e ρ' w' => match e with
      | .norm => resVC T ρ' w' fn.results.toList fun vs => K (one vs) w'
      | .ret => resVC T ρ' w' fn.results.toList fun vs => K (one vs) w'
      | .exit _ => False) : CallC P f args w K := by
  refine CallC_mk (calls_of_wp hf hb ?_)
  have hl := Nat.le_of_ble_eq_true hl
  have hok : Env.Ok fn.ntmps (envOf args 0) { tmps := args.toArray ++ Array.replicate (fn.ntmps - args.toArray.size) undef, defers := [] } := by
    refine ⟨by simp; omega, rfl, fun t v ht => ?_⟩
    have h1 := (envOf_look args 0 t v ht).2
    simp only [Nat.sub_zero] at h1
    have hlt : t < args.length := by
      rcases Nat.lt_or_ge t args.length with h' | h'
      · exact h'
      · rw [List.getElem?_eq_none h'] at h1; cases h1
    rw [Array.getElem?_append_left (by simpa using hlt)]
    simpa using h1
  refine Code.wp_mono ?_ (codeU_sound hT c hc _ _ _ w hok h)
  have fin : ∀ (ρ : Env) (a : Act) (w : World), Env.Ok fn.ntmps ρ a → (resVC T ρ w fn.results.toList fun vs => K (one vs) w) →
      a.defers = [] ∧ ∃ v, (results fn a.tmps).run P w = .ok v w ∧ ∃ v', Ending.returned v = .returned v' ∧ K v' w := by
    intro ρ a w hρ hr
    obtain ⟨vs, hk, hrun⟩ := res_sound hT hρ w _ _ hr
    refine ⟨hρ.defers, one vs, ?_, one vs, rfl, hk⟩
    show (do let vs ← fn.results.mapM (resOne a.tmps); pure (if h : vs.size = 1 then vs[0] else .tuple vs) : Sem Value).run P w = _
    rw [Sem.run_bind, Array.mapM_eq_mapM_toList, Sem.run_map, hrun]
    simp only [Result.andThen_ok, Sem.run_pure]
    congr 1
    cases vs with
    | nil => rfl
    | cons v vs => cases vs <;> rfl
  intro e a w hq
  cases e with
  | normal => obtain ⟨ρ, h1, h2⟩ := hq; exact fin ρ a w h1 h2
  | ret => obtain ⟨ρ, h1, h2⟩ := hq; exact fin ρ a w h1 h2
  | exit i => obtain ⟨ρ, h1, h2⟩ := hq; exact h2.elim
  | _ => exact hq.elim
end
end Go.Vc
