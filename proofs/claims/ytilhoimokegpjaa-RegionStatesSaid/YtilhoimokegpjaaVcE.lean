/- The rules for statements: regions, branches, blocks, loops, calls. -/
import Derived.Test.YtilhoimokegpjaaVcD
import Derived.Deep.LoopGhost
namespace Go.Vc

noncomputable def opVC (P : Program) (T : Tab) (ρ : Env) (op : Op) (type : TypeId) (K : Value → World → Prop) (w : World) : Prop :=
  match isPure T op with
  | true => pureVC T ρ op fun v => K v w
  | false => effVC P T ρ op type K w
noncomputable def dstOf (ops : List Oper) (j : Nat) : Option Nat := match ops[j]? with | some o => o.dst | none => none
def gd (want : Bool) (b : Bool) (x y : Prop) : Prop := match want, b with | true, true => x | false, false => x | _, _ => y
def gdO (all : List Oper) (o : Oper) (ρ : Env) (run skip : Env → Prop) : Prop :=
  match o.guard with
  | none => run ρ
  | some (j, want) => match dstOf all j with
    | none => False
    | some d => match look ρ d with
      | some (.bool b) => Br b
          (gd want true (run ((d, .bool true) :: ρ)) (skip ((d, .bool true) :: ρ)))
          (gd want false (run ((d, .bool false) :: ρ)) (skip ((d, .bool false) :: ρ)))
      | some (.tuple _) => skip ρ
      | _ => False
noncomputable def opsVC (P : Program) (T : Tab) (all l : List Oper) : Env → World → (Env → World → Prop) → Prop :=
  List.rec (motive := fun _ => Env → World → (Env → World → Prop) → Prop)
    (fun ρ w K => K ρ w)
    (fun o _ ih ρ w K => gdO all o ρ (fun σ => opVC P T σ o.op o.type (fun v w' => ih (Env.put σ o.dst v) w' K) w) (fun σ => ih (Env.put σ o.dst undef) w K)) l
theorem opsVC_cons {P : Program} {T : Tab} {all rest : List Oper} {o : Oper} {ρ : Env} {w : World} {K : Env → World → Prop} : opsVC P T all (o :: rest) ρ w K =
  gdO all o ρ (fun σ => opVC P T σ o.op o.type (fun v w' => opsVC P T all rest (Env.put σ o.dst v) w' K) w) (fun σ => opsVC P T all rest (Env.put σ o.dst undef) w K) := rfl

/-- The goal is written down as it stands, so that the kernel need not find it out once more. -/
theorem Kp {p : Prop} (h : p) : p := h
inductive Ex where
  | norm | exit (id : Nat) | ret
def LoopC (body : Env → World → (Ex → Env → World → Prop) → Prop) (ρ : Env) (w : World) (K : Ex → Env → World → Prop) : Prop :=
  ∃ (I : Nat → Env → World → Prop) (m : Nat) (σ : Env), Sub σ ρ ∧ I m σ w ∧
    ∀ m ρ' w', I m ρ' w' → body ρ' w' fun e ρ'' w'' => match e with
      | .norm => ∃ m' σ', m' < m ∧ Sub σ' ρ'' ∧ I m' σ' w''
      | .exit i => K (.exit i) ρ'' w''
      | .ret => K .ret ρ'' w''
theorem LoopC_intro {α : Type} {body : Env → World → (Ex → Env → World → Prop) → Prop} {ρ : Env} {w : World} {K : Ex → Env → World → Prop}
    (mk : α → Env) (J : Nat → α → World → Prop) (m : Nat) (x : α) (hs : Sub (mk x) ρ) (h0 : J m x w)
    (step : ∀ m x w', J m x w' → body (mk x) w' fun e ρ'' w'' => match e with
      | .norm => ∃ m' σ', m' < m ∧ Sub σ' ρ'' ∧ ∃ x', σ' = mk x' ∧ J m' x' w''
      | .exit i => K (.exit i) ρ'' w''
      | .ret => K .ret ρ'' w'') : LoopC body ρ w K :=
  ⟨fun m σ w' => ∃ x, σ = mk x ∧ J m x w', m, mk x, hs, ⟨x, rfl, h0⟩, fun m _ w' ⟨x, e, hj⟩ => by subst e; exact step m x w' hj⟩
theorem LoopC_elim {body : Env → World → (Ex → Env → World → Prop) → Prop} {ρ : Env} {w : World} {K : Ex → Env → World → Prop} (h : LoopC body ρ w K) :
  ∃ (I : Nat → Env → World → Prop) (m : Nat) (σ : Env), Sub σ ρ ∧ I m σ w ∧
    ∀ m ρ' w', I m ρ' w' → body ρ' w' fun e ρ'' w'' => match e with
      | .norm => ∃ m' σ', m' < m ∧ Sub σ' ρ'' ∧ I m' σ' w''
      | .exit i => K (.exit i) ρ'' w''
      | .ret => K .ret ρ'' w'' := h
attribute [irreducible] LoopC
/-- The end of a round. -/
theorem next_round {α : Type} {mk : α → Env} {J : Nat → α → World → Prop} {m : Nat} {ρ : Env} {w : World} (m' : Nat) (x : α) (hm : m' < m) (hs : Sub (mk x) ρ) (hj : J m' x w) :
    ∃ m' σ', m' < m ∧ Sub σ' ρ ∧ ∃ x', σ' = mk x' ∧ J m' x' w := ⟨m', mk x, hm, hs, x, rfl, hj⟩

/-- A region whose order the language leaves open: told in VcF. -/
def AnyC (P : Program) (ops : Array Oper) (ρ : Env) (w : World) (K : Env → World → Prop) : Prop :=
  ∀ n (a : Act) (Q : Exit → Act → World → Prop), ρ.Ok n a → (∀ o ∈ ops.toList, ∀ d, o.dst = some d → d < n) → (∀ ρ' a' w', ρ'.Ok n a' → K ρ' w' → Q .normal a' w') → (∀ e a w, Q e a w → e = .normal ∨ (∃ i, e = .exit i) ∨ e = .ret) →
    ∀ id, (Code.region id ops true).wp P Q a w
theorem AnyC_elim {P : Program} {ops : Array Oper} {ρ : Env} {w : World} {K : Env → World → Prop} (h : AnyC P ops ρ w K) :
  ∀ n (a : Act) (Q : Exit → Act → World → Prop), ρ.Ok n a → (∀ o ∈ ops.toList, ∀ d, o.dst = some d → d < n) → (∀ ρ' a' w', ρ'.Ok n a' → K ρ' w' → Q .normal a' w') → (∀ e a w, Q e a w → e = .normal ∨ (∃ i, e = .exit i) ∨ e = .ret) →
    ∀ id, (Code.region id ops true).wp P Q a w := h
theorem AnyC_mk {P : Program} {ops : Array Oper} {ρ : Env} {w : World} {K : Env → World → Prop}
    (h : ∀ n (a : Act) (Q : Exit → Act → World → Prop), ρ.Ok n a → (∀ o ∈ ops.toList, ∀ d, o.dst = some d → d < n) → (∀ ρ' a' w', ρ'.Ok n a' → K ρ' w' → Q .normal a' w') → (∀ e a w, Q e a w → e = .normal ∨ (∃ i, e = .exit i) ∨ e = .ret) →
    ∀ id, (Code.region id ops true).wp P Q a w) : AnyC P ops ρ w K := h
attribute [irreducible] AnyC

def asn (c : Operand) (b : Bool) (ρ : Env) : Env := match c with | .tmp t => (t, .bool b) :: ρ | _ => ρ
noncomputable def codeVC (P : Program) (T : Tab) (c : Code) : Env → World → (Ex → Env → World → Prop) → Prop :=
  Code.rec (motive := fun _ => Env → World → (Ex → Env → World → Prop) → Prop)
    (fun ρ w K => K .norm ρ w)
    (fun _ ops draw ρ w K => Bool.rec (opsVC P T ops.toList ops.toList ρ w (K .norm)) (AnyC P ops ρ w (K .norm)) draw)
    (fun _ _ ia ib ρ w K => ia ρ w fun e ρ' w' => Ex.rec (ib ρ' w' K) (fun i => K (.exit i) ρ' w') (K .ret ρ' w') e)
    (fun c _ _ ix iy ρ w K => match ev ρ c with
      | some (.bool b) => Br b (ix (asn c true ρ) w K) (iy (asn c false ρ) w K)
      | _ => False)
    (fun id _ ib ρ w K => ib ρ w fun e ρ' w' => Ex.rec (K .norm ρ' w') (fun i => Bool.rec (K (.exit i) ρ' w') (K .norm ρ' w') (Nat.beq i id)) (K .ret ρ' w') e)
    (fun _ ib ρ w K => LoopC ib ρ w K)
    (fun _ _ _ _ _ _ _ _ _ => False)
    (fun id ρ w K => K (.exit id) ρ w)
    (fun _ _ _ _ _ => False)
    (fun _ ρ w K => K .norm ρ w)
    (fun _ _ _ _ => False)
    (fun ρ w K => K .ret ρ w)
    (fun _ _ _ _ => False) c
theorem codeVC_seq' {P : Program} {T : Tab} {a b : Code} {ρ : Env} {w : World} {K : Ex → Env → World → Prop} : codeVC P T (.seq a b) ρ w K = codeVC P T a ρ w fun e ρ' w' => match e with
    | .norm => codeVC P T b ρ' w' K
    | .exit i => K (.exit i) ρ' w'
    | .ret => K .ret ρ' w' := by
  show codeVC P T a ρ w _ = _
  congr 1
  funext e ρ' w'
  cases e <;> rfl
theorem codeVC_cond' {P : Program} {T : Tab} {c : Operand} {x y : Code} {ρ : Env} {w : World} {K : Ex → Env → World → Prop} : codeVC P T (.cond c x y) ρ w K = match ev ρ c with
    | some (.bool b) => Br b (codeVC P T x (asn c true ρ) w K) (codeVC P T y (asn c false ρ) w K)
    | _ => False := rfl
theorem codeVC_block' {P : Program} {T : Tab} {id : Nat} {b : Code} {ρ : Env} {w : World} {K : Ex → Env → World → Prop} : codeVC P T (.block id b) ρ w K = codeVC P T b ρ w fun e ρ' w' => match e with
    | .norm => K .norm ρ' w'
    | .exit i => (match Nat.beq i id with | true => K .norm ρ' w' | false => K (.exit i) ρ' w')
    | .ret => K .ret ρ' w' := by
  show codeVC P T b ρ w _ = _
  congr 1
  funext e ρ' w'
  cases e with
  | norm => rfl
  | ret => rfl
  | exit i => show (Bool.rec (K (.exit i) ρ' w') (K .norm ρ' w') (Nat.beq i id) : Prop) = match Nat.beq i id with | true => K .norm ρ' w' | false => K (.exit i) ρ' w'; cases Nat.beq i id <;> rfl
/-- Every variable that is written lies in the frame. -/
def dstsOk (n : Nat) (ops : List Oper) : Bool := ops.all fun o => match o.dst with | some d => Nat.blt d n | none => true
def codeOk (n : Nat) : Code → Bool
  | .region _ ops _ => dstsOk n ops.toList
  | .seq a b | .cond _ a b => codeOk n a && codeOk n b
  | .block _ b | .loop b => codeOk n b
  | _ => true

def resV1 (T : Tab) (ρ : Env) (w : World) (x : ResultVar) (K : Value → Prop) : Prop :=
  match x with
  | .tmp t => W (look ρ t) K
  | .cell x t => (match look T.recs t, look ρ x with
    | some q, some (.pointer (some ad)) => (match q.d.agg with
      | true => LdN w ad 0 q.size fun vs => K (.agg vs.toArray)
      | false => LdC w ad K)
    | _, _ => False)
noncomputable def resVC (T : Tab) (ρ : Env) (w : World) (rs : List ResultVar) (K : List Value → Prop) : Prop :=
  List.rec (motive := fun _ => (List Value → Prop) → Prop) (fun K => K []) (fun x _ ih K => resV1 T ρ w x fun v => ih fun vs => K (v :: vs)) rs K
theorem resVC_cons' {T : Tab} {ρ : Env} {w : World} {x : ResultVar} {r : List ResultVar} {K : List Value → Prop} : resVC T ρ w (x :: r) K = resV1 T ρ w x fun v => resVC T ρ w r fun vs => K (v :: vs) := rfl
def one : List Value → Value
  | [v] => v
  | vs => .tuple vs.toArray
noncomputable def envOf (vs : List Value) (i : Nat) : Env := List.rec (motive := fun _ => Nat → Env) (fun _ => []) (fun v _ ih i => (i, v) :: ih (i + 1)) vs i
theorem envOf_cons' {v : Value} {vs : List Value} {i : Nat} : envOf (v :: vs) i = (i, v) :: envOf vs (i + 1) := rfl

section
variable {P : Program} {T : Tab} {n : Nat}

theorem op_sound (hT : T.Ok P) {ρ : Env} {a : Act} {w : World} {next : Act → World → Prop} {Q : Exit → Act → World → Prop} (hρ : ρ.Ok n a) {o : Oper} {K : Value → World → Prop}
    (hn : ∀ v w', K v w' → next (a.put o.dst v) w') (h : opVC P T ρ o.op o.type K w) : o.wp P a w next Q := by
  unfold opVC at h
  cases hp : isPure T o.op with
  | true =>
    rw [hp] at h
    obtain ⟨v, hk, hr⟩ := pure_sound hT hρ hp h
    exact upon_of hn (hr w) hk
  | false => rw [hp] at h; exact eff_sound hT hρ hn h

theorem yielded_eq {ops : Array Oper} {ρ : Env} {a : Act} (hρ : ρ.Ok n a) {j d : Nat} {b : Bool} (hd : dstOf ops.toList j = some d) (hl : look ρ d = some (.bool b)) : yielded ops a.tmps j = some b := by
  have h1 := hρ.get d _ hl
  unfold dstOf at hd
  unfold yielded
  cases ho : ops.toList[j]? with
  | none => rw [ho] at hd; cases hd
  | some o =>
    rw [ho] at hd
    have ho' : ops[j]? = some o := by simpa using ho
    simp at hd
    rw [ho']
    simp [hd, h1]

theorem yielded_no {ops : Array Oper} {ρ : Env} {a : Act} (hρ : ρ.Ok n a) {j d : Nat} {vs : Array Value} (hd : dstOf ops.toList j = some d) (hl : look ρ d = some (.tuple vs)) : yielded ops a.tmps j = none := by
  have h1 := hρ.get d _ hl
  unfold dstOf at hd
  unfold yielded
  cases ho : ops.toList[j]? with
  | none => rw [ho] at hd; cases hd
  | some o =>
    rw [ho] at hd
    have ho' : ops[j]? = some o := by simpa using ho
    simp at hd
    rw [ho']
    simp [hd, h1]
theorem gd_tt {x y : Prop} : gd true true x y = x := rfl
theorem gd_ff {x y : Prop} : gd false false x y = x := rfl
theorem gd_tf {x y : Prop} : gd true false x y = y := rfl
theorem gd_ft {x y : Prop} : gd false true x y = y := rfl

theorem ops_sound (hT : T.Ok P) {ops : Array Oper} {Q : Exit → Act → World → Prop} {K : Env → World → Prop} (hQ : ∀ ρ' a' w', Env.Ok n ρ' a' → K ρ' w' → Q .normal a' w') :
    ∀ (rest : List Oper), (∀ o ∈ rest, ∀ d, o.dst = some d → d < n) → ∀ (ρ : Env) (a : Act) (w : World), ρ.Ok n a → opsVC P T ops.toList rest ρ w K → wpList P ops Q rest a w := by
  intro rest
  induction rest with
  | nil => intro _ ρ a w hρ h; exact hQ _ _ _ hρ h
  | cons o rest ih =>
    intro hd ρ a w hρ h
    have hd1 := hd o List.mem_cons_self
    have ih := ih (fun o ho => hd o (List.mem_cons_of_mem _ ho))
    have run : ∀ (σ : Env), σ.Ok n a → Region.wanted o (yielded ops a.tmps) = true → opVC P T σ o.op o.type (fun v w' => opsVC P T ops.toList rest (σ.put o.dst v) w' K) w → wpList P ops Q (o :: rest) a w := by
      intro σ hσ hw h
      unfold wpList
      rw [if_pos hw]
      refine .inl (op_sound hT hσ (fun v w' hk => ih _ _ _ (hσ.put hd1 v) hk) h)
    have skip : ∀ (σ : Env), σ.Ok n a → Region.wanted o (yielded ops a.tmps) = false → opsVC P T ops.toList rest (σ.put o.dst undef) w K → wpList P ops Q (o :: rest) a w := by
      intro σ hσ hw h
      unfold wpList
      rw [hw, if_neg (by simp)]
      exact ih _ _ _ (hσ.put hd1 undef) h
    rw [opsVC_cons] at h
    unfold gdO at h
    split at h
    · rename_i hg
      exact run ρ hρ (by simp [Region.wanted, hg]) h
    · rename_i j want hg
      split at h
      · exact h.elim
      · rename_i d hdo
        split at h
        · rename_i b hl
          have hy := yielded_eq hρ hdo hl
          have hσ : ∀ c, b = c → Env.Ok n ((d, .bool c) :: ρ) a := fun c e => hρ.same (by rw [hl, e])
          cases b <;> cases want
          · exact run _ (hσ false rfl) (by simp [Region.wanted, hg, hy]) h
          · exact skip _ (hσ false rfl) (by simp [Region.wanted, hg, hy]) h
          · exact skip _ (hσ true rfl) (by simp [Region.wanted, hg, hy]) h
          · exact run _ (hσ true rfl) (by simp [Region.wanted, hg, hy]) h
        · rename_i hl
          exact skip ρ hρ (by simp [Region.wanted, hg, yielded_no hρ hdo hl]) h
        · exact h.elim

theorem dsts_of {ops : List Oper} (h : dstsOk n ops = true) : ∀ o ∈ ops, ∀ d, o.dst = some d → d < n := by
  intro o ho d hd
  have := List.all_eq_true.1 h o ho
  rw [hd] at this
  exact Nat.le_of_ble_eq_true (show Nat.ble (d + 1) n = true from this)

/-- The endings as the model has them. -/
def QOf (n : Nat) (K : Ex → Env → World → Prop) : Exit → Act → World → Prop
  | .normal, a, w => ∃ ρ, Env.Ok n ρ a ∧ K .norm ρ w
  | .exit i, a, w => ∃ ρ, Env.Ok n ρ a ∧ K (.exit i) ρ w
  | .ret, a, w => ∃ ρ, Env.Ok n ρ a ∧ K .ret ρ w
  | _, _, _ => False

theorem code_sound (hT : T.Ok P) : ∀ (c : Code), codeOk n c = true → ∀ (K : Ex → Env → World → Prop) (ρ : Env) (a : Act) (w : World), ρ.Ok n a → codeVC P T c ρ w K → c.wp P (QOf n K) a w := by
  intro c
  induction c with
  | skip => intro _ K ρ a w hρ h; exact wp_skip ⟨ρ, hρ, h⟩
  | label l => intro _ K ρ a w hρ h; exact wp_label ⟨ρ, hρ, h⟩
  | exit id => intro _ K ρ a w hρ h; exact wp_exit ⟨ρ, hρ, h⟩
  | ret => intro _ K ρ a w hρ h; exact wp_ret ⟨ρ, hρ, h⟩
  | region id ops draw =>
    intro hok K ρ a w hρ h
    cases draw with
    | false => exact wp_region_list (ops_sound hT (Q := QOf n K) (K := K .norm) (fun ρ' a' w' h1 h2 => ⟨ρ', h1, h2⟩) ops.toList (dsts_of hok) ρ a w hρ h)
    | true =>
      refine AnyC_elim h n a (QOf n K) hρ (dsts_of hok) (fun ρ' a' w' h1 h2 => ⟨ρ', h1, h2⟩) ?_ id
      intro e a w hq
      cases e <;> first | exact .inl rfl | exact .inr (.inl ⟨_, rfl⟩) | exact .inr (.inr rfl) | exact hq.elim
  | seq x y ihx ihy =>
    intro hok K ρ a w hρ h
    simp only [codeOk, Bool.and_eq_true] at hok
    rw [codeVC_seq'] at h
    refine wp_seq (Code.wp_mono ?_ (ihx hok.1 _ ρ a w hρ h))
    intro e a w hq
    cases e with
    | normal => obtain ⟨σ, h1, h2⟩ := hq; exact ihy hok.2 K σ a w h1 h2
    | exit i => exact hq
    | ret => exact hq
    | _ => exact hq.elim
  | cond c x y ihx ihy =>
    intro hok K ρ a w hρ h
    simp only [codeOk, Bool.and_eq_true] at hok
    rw [codeVC_cond'] at h
    split at h
    · rename_i b hc
      have hs : ∀ t, b = t → Env.Ok n (asn c t ρ) a := by
        intro t e
        subst e
        cases c with
        | tmp t => exact hρ.same hc
        | _ => exact hρ
      refine wp_cond (hρ.ev hc) ?_
      cases b
      · exact ihy hok.2 K _ a w (hs false rfl) h
      · exact ihx hok.1 K _ a w (hs true rfl) h
    · exact h.elim
  | block id b ih =>
    intro hok K ρ a w hρ h
    rw [codeVC_block'] at h
    refine wp_block (Code.wp_mono ?_ (ih hok _ ρ a w hρ h))
    intro e a w hq
    cases e with
    | normal => exact hq
    | exit i =>
      obtain ⟨σ, h1, h2⟩ := hq
      simp only [Exit.inBlock]
      cases hb : Nat.beq i id with
      | true => simp only [hb] at h2; rw [if_pos (Nat.eq_of_beq_eq_true hb)]; exact ⟨σ, h1, h2⟩
      | false => simp only [hb] at h2; rw [if_neg (Nat.ne_of_beq_eq_false hb)]; exact ⟨σ, h1, h2⟩
    | ret => exact hq
    | _ => exact hq.elim
  | loop b ih =>
    intro hok K ρ a w hρ h
    obtain ⟨I, m, σ, hs, h0, step⟩ := LoopC_elim h
    refine wp_loop_ghost (fun m a w => ∃ ρ', Env.Ok n ρ' a ∧ I m ρ' w) m ⟨σ, hρ.sub hs, h0⟩ ?_
    intro m a w ⟨ρ', h1, h2⟩
    refine Code.wp_mono ?_ (ih hok _ ρ' a w h1 (step m ρ' w h2))
    intro e a w hq
    cases e with
    | normal => obtain ⟨τ, h3, m', σ', hm, hsub, hI⟩ := hq; exact ⟨m', hm, σ', h3.sub hsub, hI⟩
    | exit i => exact hq
    | ret => exact hq
    | _ => exact hq.elim
  | _ => intro _ K ρ a w hρ h; exact h.elim

theorem envOf_look : ∀ (vs : List Value) (i t : Nat) (v : Value), look (envOf vs i) t = some v → i ≤ t ∧ vs[t - i]? = some v := by
  intro vs
  induction vs with
  | nil => intro i t v h; cases h
  | cons u vs ih =>
    intro i t v h
    simp only [envOf_cons', look_eq] at h
    cases hb : Nat.beq i t with
    | true => rw [hb] at h; have := Nat.eq_of_beq_eq_true hb; subst this; simp at h; subst h; simp
    | false =>
      rw [hb] at h
      obtain ⟨h1, h2⟩ := ih (i + 1) t v h
      have : t - i = (t - (i + 1)) + 1 := by omega
      exact ⟨by omega, by rw [this]; simpa using h2⟩

def resOne (tmps : Array Value) : ResultVar → Sem Value
  | .tmp t => pure (tmps.getD t undef)
  | .cell x t => do loadVar t (← asAddr (tmps.getD x undef))
theorem res_sound (hT : T.Ok P) {ρ : Env} {a : Act} (hρ : ρ.Ok n a) (w : World) : ∀ (rs : List ResultVar) (K : List Value → Prop), resVC T ρ w rs K →
    ∃ vs, K vs ∧ (rs.mapM (resOne a.tmps)).run P w = .ok vs w := by
  intro rs
  induction rs with
  | nil => intro K h; exact ⟨[], h, rfl⟩
  | cons r rs ih =>
    intro K h
    cases r with
    | tmp t =>
      obtain ⟨v, hv, hk⟩ := W_some h
      obtain ⟨vs, h1, h2⟩ := ih _ hk
      have := hρ.get t v hv
      refine ⟨v :: vs, h1, ?_⟩
      rw [List.mapM_cons, Sem.run_bind]
      simp [resOne, this, h2]
    | cell x t =>
      rw [resVC_cons'] at h
      simp only [resV1] at h
      split at h
      · rename_i q ad h1 h2
        have hx := hρ.get x _ h2
        have hagg := look_isAgg hT h1
        cases hq : q.d.agg with
        | true =>
          rw [hq] at h hagg
          obtain ⟨vs, hk, hr⟩ := LdN_run (P := P) q.size 0 [] _ h
          obtain ⟨us, h3, h4⟩ := ih _ hk
          refine ⟨.agg vs.toArray :: us, h3, ?_⟩
          rw [List.mapM_cons, Sem.run_bind]
          simp only [List.nil_append] at hr
          simp [resOne, hx, asAddr, loadVar, hagg, look_size hT h1, loadCells, hr, h4]
        | false =>
          rw [hq] at h hagg
          obtain ⟨v, hv, hk⟩ := LdC_elim h
          obtain ⟨us, h3, h4⟩ := ih _ hk
          refine ⟨v :: us, h3, ?_⟩
          rw [List.mapM_cons, Sem.run_bind]
          simp [resOne, hx, asAddr, loadVar, hagg, hv, h4]
      · exact h.elim

theorem call_sound (hT : T.Ok P) {f : FuncId} {fn : Func} {c : Code} {args : List Value} {w : World} {K : Value → World → Prop}
    (hf : P.funcs[f]? = some fn) (hb : fn.body = some c) (hc : codeOk fn.ntmps c = true) (hl : Nat.ble args.length fn.ntmps = true)
    (h : codeVC P T c (envOf args 0) w fun e ρ' w' => match e with
      | .norm => resVC T ρ' w' fn.results.toList fun vs => K (one vs) w'
      | .ret => resVC T ρ' w' fn.results.toList fun vs => K (one vs) w'
      | .exit _ => False) : CallC P f args w K := by
  refine CallC_mk (calls_of_wp hf hb ?_)
  have hl := Nat.le_of_ble_eq_true hl
  have hok : Env.Ok fn.ntmps (envOf args 0) { tmps := args.toArray ++ Array.replicate (fn.ntmps - args.toArray.size) undef, defers := [] } := by
    refine ⟨by simp; omega, rfl, fun t v ht => ?_⟩
    have h1 := (envOf_look args 0 t v ht).2
    simp only [Nat.sub_zero] at h1
    have hlt : t < args.length := by
      rcases Nat.lt_or_ge t args.length with h' | h'
      · exact h'
      · rw [List.getElem?_eq_none h'] at h1; cases h1
    rw [Array.getElem?_append_left (by simpa using hlt)]
    simpa using h1
  refine Code.wp_mono ?_ (code_sound hT c hc _ _ _ w hok h)
  have fin : ∀ (ρ : Env) (a : Act) (w : World), Env.Ok fn.ntmps ρ a → (resVC T ρ w fn.results.toList fun vs => K (one vs) w) →
      a.defers = [] ∧ ∃ v, (results fn a.tmps).run P w = .ok v w ∧ ∃ v', Ending.returned v = .returned v' ∧ K v' w := by
    intro ρ a w hρ hr
    obtain ⟨vs, hk, hrun⟩ := res_sound hT hρ w _ _ hr
    refine ⟨hρ.defers, one vs, ?_, one vs, rfl, hk⟩
    show (do let vs ← fn.results.mapM (resOne a.tmps); pure (if h : vs.size = 1 then vs[0] else .tuple vs) : Sem Value).run P w = _
    rw [Sem.run_bind, Array.mapM_eq_mapM_toList, Sem.run_map, hrun]
    simp only [Result.andThen_ok, Sem.run_pure]
    congr 1
    cases vs with
    | nil => rfl
    | cons v vs => cases vs <;> rfl
  intro e a w hq
  cases e with
  | normal => obtain ⟨ρ, h1, h2⟩ := hq; exact fin ρ a w h1 h2
  | ret => obtain ⟨ρ, h1, h2⟩ := hq; exact fin ρ a w h1 h2
  | exit i => obtain ⟨ρ, h1, h2⟩ := hq; exact h2.elim
  | _ => exact hq.elim
end
end Go.Vc
