/- Memory: blocks, what is left alone, and the rules' side conditions. -/
import Derived.Test.YtilhoimokegpjaaVcF
namespace Go.Vc

/- The table, checked by a run. -/
def leafEq : Value → Value → Bool
  | .bool a, .bool b => a == b
  | .int j a, .int k b => kindEq j k && decide (a = b)
  | .string a, .string b => decide (a.size = 0) && decide (b.size = 0)
  | .pointer none, .pointer none => true
  | .slice none a b, .slice none c d => Nat.beq a c && Nat.beq b d
  | .map none, .map none => true
  | .nilFunc, .nilFunc => true
  | .nilIface, .nilIface => true
  | _, _ => false
theorem bytes_empty {s : ByteArray} (h : s.size = 0) : s = ByteArray.empty := by
  obtain ⟨a⟩ := s
  have : a = #[] := Array.eq_empty_of_size_eq_zero h
  subst this; rfl
theorem leafEq_eq {a b : Value} (h : leafEq a b = true) : a = b := by
  unfold leafEq at h
  split at h
  · rw [eq_of_beq h]
  · simp only [Bool.and_eq_true, decide_eq_true_eq] at h; rw [beq_ctor h.1, h.2]
  · rename_i s t
    simp only [Bool.and_eq_true, decide_eq_true_eq] at h
    rw [bytes_empty h.1, bytes_empty h.2]
  · rfl
  · simp only [Bool.and_eq_true] at h; rw [Nat.eq_of_beq_eq_true h.1, Nat.eq_of_beq_eq_true h.2]
  · rfl
  · rfl
  · rfl
  · cases h
def leavesEq : List Value → List Value → Bool
  | [], [] => true
  | a :: x, b :: y => leafEq a b && leavesEq x y
  | _, _ => false
theorem leavesEq_eq : ∀ {x y : List Value}, leavesEq x y = true → x = y
  | [], [], _ => rfl
  | [], _ :: _, h => by cases h
  | _ :: _, [], h => by cases h
  | a :: x, b :: y, h => by
    simp only [leavesEq, Bool.and_eq_true] at h
    rw [leafEq_eq h.1, leavesEq_eq h.2]
def pairsEq : List (Nat × Nat) → List (Nat × Nat) → Bool
  | [], [] => true
  | (a, b) :: x, (c, d) :: y => Nat.beq a c && (Nat.beq b d && pairsEq x y)
  | _, _ => false
theorem pairsEq_eq : ∀ {x y : List (Nat × Nat)}, pairsEq x y = true → x = y
  | [], [], _ => rfl
  | [], _ :: _, h => by cases h
  | _ :: _, [], h => by cases h
  | (a, b) :: x, (c, d) :: y, h => by
    simp only [pairsEq, Bool.and_eq_true] at h
    rw [Nat.eq_of_beq_eq_true h.1, Nat.eq_of_beq_eq_true h.2.1, pairsEq_eq h.2.2]
def D.beq : D → D → Bool
  | .bool, .bool => true
  | .int j, .int k => kindEq j k
  | .str, .str => true
  | .ptr a, .ptr b => Nat.beq a b
  | .slice a, .slice b => Nat.beq a b
  | .arr a b, .arr c d => Nat.beq a c && Nat.beq b d
  | .map a b, .map c d => Nat.beq a c && Nat.beq b d
  | .struct a, .struct b => pairsEq a b
  | .func, .func => true
  | .iface, .iface => true
  | .other, .other => true
  | _, _ => false
theorem D.beq_eq {a b : D} (h : D.beq a b = true) : a = b := by
  unfold D.beq at h
  split at h <;> first
    | rfl
    | (rw [beq_ctor h]; done)
    | (rw [Nat.eq_of_beq_eq_true h]; done)
    | (rw [pairsEq_eq h]; done)
    | (simp only [Bool.and_eq_true] at h; rw [Nat.eq_of_beq_eq_true h.1, Nat.eq_of_beq_eq_true h.2]; done)
    | (cases h; done)
def recOk (P : Program) (t : Nat) (r : Rec) : Bool :=
  match P.underlying t, P.info? t with
  | some d, some i => (match i.zero with
    | some z => D.beq (D.of d) r.d && (Nat.beq i.size r.size && (Nat.beq i.bytes r.bytes && leavesEq z.cells.toList r.zero))
    | none => false)
  | _, _ => false
theorem recOk_ok {P : Program} {t : Nat} {r : Rec} (h : recOk P t r = true) : r.Ok P t := by
  unfold recOk at h
  split at h
  · rename_i d i h1 h2
    split at h
    · rename_i z h3
      simp only [Bool.and_eq_true] at h
      exact ⟨⟨d, h1, D.beq_eq h.1⟩, i, z, h2, Nat.eq_of_beq_eq_true h.2.1, Nat.eq_of_beq_eq_true h.2.2.1, h3, leavesEq_eq h.2.2.2⟩
    · cases h
  · cases h
def fnOk (P : Program) (f : Nat) : Bool := match P.funcs[f]? with | some fn => !(fn.name == "runtime.NumGoroutine") && !fn.body.isNone | none => false
theorem fnOk_ok {P : Program} {f : Nat} (h : fnOk P f = true) : FnOk P f := by
  unfold fnOk at h
  split at h
  · rename_i fn h1
    simp only [Bool.and_eq_true, Bool.not_eq_true'] at h
    exact ⟨fn, h1, h.1, h.2⟩
  · cases h
theorem tab_of {P : Program} {T : Tab} (h : (T.recs.all (fun x => recOk P x.1 x.2) && T.fns.all (fnOk P)) = true) : T.Ok P := by
  simp only [Bool.and_eq_true, List.all_eq_true] at h
  exact Tab.Ok.mk' (fun x hx => recOk_ok (h.1 x hx)) (fun f hf => fnOk_ok (h.2 f hf))

/-- What a place holds, its number made plain. -/
theorem look_int {ρ : Env} {t : Nat} {k : IntKind} {m n : Int} (h : Vc.look ρ t = some (.int k m)) (e : m = n) : Vc.look ρ t = some (.int k n) := by rw [h, e]

/- Blocks. -/
def Blk (w : World) (b : Nat) (t : TypeId) (cs : List Value) : Prop := w.heap[b]? = some (.cells cs.toArray t (0, 0))
/-- From w to w' nothing that was there has turned but what F lets. -/
structure Fr (F : Nat → Prop) (w w' : World) : Prop where
  os : w'.os = w.os
  tape : w'.tape = w.tape
  output : w'.output = w.output
  size : w.heap.size ≤ w'.heap.size
  blk : ∀ k, k < w.heap.size → ¬ F k → w'.heap[k]? = w.heap[k]?
def No : Nat → Prop := fun _ => False
section
variable {w w' w'' : World} {b k : Nat} {t : TypeId} {cs : List Value} {F G H : Nat → Prop}
theorem Blk.of_eq {cs' : List Value} (h : Blk w b t cs) (e : cs = cs') : Blk w b t cs' := e ▸ h
theorem Blk.lt (h : Blk w b t cs) : b < w.heap.size := by
  unfold Blk at h
  rcases Nat.lt_or_ge b w.heap.size with h' | h'
  · exact h'
  · rw [Array.getElem?_eq_none h'] at h; cases h
theorem Blk.cell (h : Blk w b t cs) {o : Nat} {v : Value} (hc : cs[o]? = some v) : w.cell? ⟨b, o, none⟩ = some v := by
  unfold Blk at h
  simp [World.cell?, h, hc]
theorem Blk.frozen (h : Blk w b t cs) (o : Nat) : w.frozen? ⟨b, o, none⟩ = false := by
  unfold Blk at h
  simp [World.frozen?, h]
theorem Blk.keep (h : Blk w b t cs) (f : Fr F w w') (hn : ¬ F b) : Blk w' b t cs := (f.blk b h.lt hn).trans h
theorem Blk.inj {cs' : List Value} {t' : TypeId} (h : Blk w b t cs) (h' : Blk w b t' cs') : cs = cs' ∧ t = t' := by
  unfold Blk at h h'
  rw [h] at h'
  injection h' with h'
  injection h' with h1 h2
  exact ⟨by simpa using h1, h2⟩
theorem Fr.refl (F : Nat → Prop) (w : World) : Fr F w w := ⟨rfl, rfl, rfl, Nat.le_refl _, fun _ _ _ => rfl⟩
theorem Fr.trans (h : Fr F w w') (g : Fr G w' w'') (hF : ∀ k, k < w.heap.size → F k → H k) (hG : ∀ k, k < w.heap.size → G k → H k) : Fr H w w'' :=
  ⟨g.os.trans h.os, g.tape.trans h.tape, g.output.trans h.output, Nat.le_trans h.size g.size, fun k hk hn =>
    (g.blk k (Nat.lt_of_lt_of_le hk h.size) (fun e => hn (hG k hk e))).trans (h.blk k hk (fun e => hn (hF k hk e)))⟩
theorem Fr.no (h : Fr No w w') (g : Fr No w' w'') : Fr No w w'' := h.trans g (fun _ _ e => e.elim) (fun _ _ e => e.elim)
theorem Fr.noL (h : Fr No w w') (g : Fr G w' w'') : Fr G w w'' := h.trans g (fun _ _ e => e.elim) (fun _ _ e => e)
theorem Fr.noR (h : Fr F w w') (g : Fr No w' w'') : Fr F w w'' := h.trans g (fun _ _ e => e) (fun _ _ e => e.elim)
/-- What was written is new. -/
theorem Fr.new (h : Fr F w w') (g : Fr G w' w'') (hF : ∀ k, k < w.heap.size → F k → H k) (hG : ∀ k, G k → w.heap.size ≤ k) : Fr H w w'' :=
  h.trans g hF (fun k hk e => absurd (hG k e) (by omega))
theorem Fr.weak (h : Fr F w w') (hF : ∀ k, k < w.heap.size → F k → H k) : Fr H w w' := ⟨h.os, h.tape, h.output, h.size, fun k hk hn => h.blk k hk fun e => hn (hF k hk e)⟩
theorem Fr.drew (w : World) : Fr No w w.drew := ⟨rfl, rfl, rfl, Nat.le_refl _, fun _ _ _ => rfl⟩
theorem Fr.drew' (h : Fr F w w') : Fr F w w'.drew := ⟨h.os, h.tape, h.output, h.size, h.blk⟩
theorem Fr.same (h : Fr F w w') (g : Fr F w' w'') : Fr F w w'' := h.trans g (fun _ _ e => e) (fun _ _ e => e)
theorem Fr.drewL (h : Fr F w.drew w') : Fr F w w' := (Fr.drew w).noL h
theorem Fr.old (h : Fr No w w') : Old w w' := fun k hk => h.blk k hk (fun e => e)
theorem Fr.below (h : Fr No w w') : RowKit.Below w.heap.size w w' := ⟨h.os, h.tape, h.output, h.size, fun k hk => h.blk k hk (fun e => e)⟩

theorem LdC_blk {K : Value → Prop} {o : Nat} {v : Value} (h : Blk w b t cs) (hc : cs[o]? = some v) (k : K v) : LdC w ⟨b, o, none⟩ K := LdC_intro (h.cell hc) k
theorem LdS_blk {K : Value → Prop} {o : Nat} {v : Value} (h : Blk w b t cs) (hc : cs[o]? = some v) (k : K v) : LdS (Old w) ⟨b, o, none⟩ K := LdS_old (h.cell hc) k
theorem Blk.set (h : Blk w b t cs) (o : Nat) (v : Value) : Blk (w.setCell ⟨b, o, none⟩ v) b t (cs.set o v) := by
  unfold Blk at h ⊢
  simp [World.setCell, Array.getElem?_modify, h]
theorem Fr.setCell (w : World) (a : Addr) (v : Value) : Fr (· = a.block) w (w.setCell a v) :=
  ⟨rfl, rfl, rfl, by simp, fun k _ hn => RowKit.Below.heap_setCell w a v k hn⟩
theorem StC_blk {K : World → Prop} {o : Nat} {v u : Value} (h : Blk w b t cs) (h1 : v.oneCell' = true) (hc : cs[o]? = some u)
    (k : ∀ w', Blk w' b t (cs.set o v) → Fr (· = b) w w' → w'.heap.size = w.heap.size → K w') : StC w ⟨b, o, none⟩ v K :=
  StC_intro h1 (h.cell hc) (h.frozen o) (k _ (h.set o v) (Fr.setCell w ⟨b, o, none⟩ v) (by simp))
theorem NewC_blk {K : Nat → World → Prop} (k : ∀ b w', b = w.heap.size → Blk w' b t cs → Fr No w w' → w'.heap.size = b + 1 → K b w') : NewC w (.cells cs.toArray t) K :=
  NewC_intro (k _ _ rfl (by unfold Blk; exact heap_new w _) ⟨rfl, rfl, rfl, by simp, fun k hk _ => RowKit.Below.heap_alloc w _ k hk⟩ (by simp))
where
  heap_new (w : World) (o : Obj) : (w.alloc o).heap[w.heap.size]? = some o := by show (w.heap.push o)[w.heap.size]? = some o; simp
theorem add_of {b o n : Nat} : (Addr.mk b o none).add n = ⟨b, o + n, none⟩ := by
  unfold Addr.add; split
  · rename_i h; subst h; rfl
  · rfl
theorem add_add' {b o m n : Nat} : ((Addr.mk b o none).add m).add n = ⟨b, o + m + n, none⟩ := by rw [add_of, add_of]
/-- Structs, their cells at once. -/
theorem LdN_aux {b t} {cs : List Value} (h : Blk w b t cs) {o : Nat} : ∀ (vs : List Value) (i : Nat) (K : List Value → Prop), (cs.drop (o + i)).take vs.length = vs → K vs → LdN w ⟨b, o, none⟩ i vs.length K := by
  intro vs
  induction vs with
  | nil => intro i K _ k; exact LdN_zero' k
  | cons v vs ih =>
    intro i K hc k
    have h0 : cs[o + i]? = some v := by
      have := congrArg (fun l => l[0]?) hc
      simpa using this
    refine LdN_cons' ?_
    rw [add_of]
    refine LdC_blk h h0 (ih (i + 1) _ ?_ k)
    obtain ⟨hlt, hv⟩ := List.getElem?_eq_some_iff.1 h0
    rw [List.drop_eq_getElem_cons hlt, List.length_cons, List.take_succ_cons] at hc
    injection hc
theorem LdN_blk {b t} {cs vs : List Value} {o n : Nat} {K : List Value → Prop} (h : Blk w b t cs) (hc : (cs.drop o).take n = vs) (hn : vs.length = n) (k : K vs) : LdN w ⟨b, o, none⟩ 0 n K := by
  subst hn; exact LdN_aux h vs 0 K hc k
theorem LdN_idx {b t} {cs vs : List Value} {o m n : Nat} {K : List Value → Prop} (h : Blk w b t cs) (hc : (cs.drop (o + m)).take n = vs) (hn : vs.length = n) (k : K vs) : LdN w ((Addr.mk b o none).add m) 0 n K := by
  rw [add_of]; exact LdN_blk h hc hn k
theorem LdSN_aux {b t} {cs : List Value} (h : Blk w b t cs) {o : Nat} : ∀ (vs : List Value) (i : Nat) (K : List Value → Prop), (cs.drop (o + i)).take vs.length = vs → K vs → LdSN (Old w) ⟨b, o, none⟩ i vs.length K := by
  intro vs
  induction vs with
  | nil => intro i K _ k; exact LdSN_zero' k
  | cons v vs ih =>
    intro i K hc k
    have h0 : cs[o + i]? = some v := by
      have := congrArg (fun l => l[0]?) hc
      simpa using this
    refine LdSN_cons' ?_
    rw [add_of]
    refine LdS_blk h h0 (ih (i + 1) _ ?_ k)
    obtain ⟨hlt, hv⟩ := List.getElem?_eq_some_iff.1 h0
    rw [List.drop_eq_getElem_cons hlt, List.length_cons, List.take_succ_cons] at hc
    injection hc
theorem LdSN_blk {b t} {cs vs : List Value} {o n : Nat} {K : List Value → Prop} (h : Blk w b t cs) (hc : (cs.drop o).take n = vs) (hn : vs.length = n) (k : K vs) : LdSN (Old w) ⟨b, o, none⟩ 0 n K := by
  subst hn; exact LdSN_aux h vs 0 K hc k
theorem LdSN_idx {b t} {cs vs : List Value} {o m n : Nat} {K : List Value → Prop} (h : Blk w b t cs) (hc : (cs.drop (o + m)).take n = vs) (hn : vs.length = n) (k : K vs) : LdSN (Old w) ((Addr.mk b o none).add m) 0 n K := by
  rw [add_of]; exact LdSN_blk h hc hn k
/-- A row of cells written over. -/
noncomputable def over (cs : List Value) (o : Nat) (vs : List Value) : List Value := List.rec (motive := fun _ => Nat → List Value → List Value) (fun _ cs => cs) (fun v _ ih o cs => ih (o + 1) (cs.set o v)) vs o cs
theorem StN_aux {b t} {o : Nat} : ∀ (vs : List Value) (i : Nat) (cs : List Value) (w : World) (K : World → Prop), Blk w b t cs → vs.all Value.oneCell' = true → o + i + vs.length ≤ cs.length →
    (∀ w', Blk w' b t (over cs (o + i) vs) → Fr (· = b) w w' → w'.heap.size = w.heap.size → K w') → StN ⟨b, o, none⟩ i vs K w := by
  intro vs
  induction vs with
  | nil => intro i cs w K h _ _ k; exact StN_zero' (k w h (Fr.refl _ _) rfl)
  | cons v vs ih =>
    intro i cs w K h ho hl k
    simp only [List.all_cons, Bool.and_eq_true] at ho
    simp only [List.length_cons] at hl
    refine StN_cons' ?_
    rw [add_of]
    refine StC_blk h ho.1 (u := cs[o + i]'(by omega)) (by simp) (fun w1 h1 f1 s1 => ?_)
    exact ih (i + 1) (cs.set (o + i) v) w1 K h1 ho.2 (by rw [List.length_set]; omega) (fun w2 h2 f2 s2 => k w2 h2 (f1.same f2) (s2.trans s1))
theorem StN_blk {b t} {cs vs : List Value} {o : Nat} {K : World → Prop} (h : Blk w b t cs) (ho : vs.all Value.oneCell' = true) (hl : o + vs.length ≤ cs.length)
    (k : ∀ w', Blk w' b t (over cs o vs) → Fr (· = b) w w' → w'.heap.size = w.heap.size → K w') : StN ⟨b, o, none⟩ 0 vs K w := StN_aux vs 0 cs w K h ho hl k
theorem StN_idx {b t} {cs vs : List Value} {o m : Nat} {K : World → Prop} (h : Blk w b t cs) (ho : vs.all Value.oneCell' = true) (hl : o + m + vs.length ≤ cs.length)
    (k : ∀ w', Blk w' b t (over cs (o + m) vs) → Fr (· = b) w w' → w'.heap.size = w.heap.size → K w') : StN ((Addr.mk b o none).add m) 0 vs K w := by
  rw [add_of]; exact StN_blk h ho hl k
/-- The same rules at an address that was stepped to. -/
theorem LdC_idx {K : Value → Prop} {o n : Nat} {v : Value} (h : Blk w b t cs) (hc : cs[o + n]? = some v) (k : K v) : LdC w ((Addr.mk b o none).add n) K := by
  rw [add_of]; exact LdC_blk h hc k
theorem LdS_idx {K : Value → Prop} {o n : Nat} {v : Value} (h : Blk w b t cs) (hc : cs[o + n]? = some v) (k : K v) : LdS (Old w) ((Addr.mk b o none).add n) K := by
  rw [add_of]; exact LdS_blk h hc k
theorem StC_idx {K : World → Prop} {o n : Nat} {v u : Value} (h : Blk w b t cs) (h1 : v.oneCell' = true) (hc : cs[o + n]? = some u)
    (k : ∀ w', Blk w' b t (cs.set (o + n) v) → Fr (· = b) w w' → w'.heap.size = w.heap.size → K w') : StC w ((Addr.mk b o none).add n) v K := by
  rw [add_of]; exact StC_blk h h1 hc k
end
end Go.Vc
