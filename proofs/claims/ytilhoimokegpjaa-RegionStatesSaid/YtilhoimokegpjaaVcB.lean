/- The rules of VcA hold: operations that only compute. -/
import Derived.Test.YtilhoimokegpjaaVcA
namespace Go.Vc

theorem beq_ctor {a b : IntKind} (h : kindEq a b = true) : a = b := by
  cases a <;> cases b <;> first | rfl | (exfalso; revert h; decide)

section
variable {P : Program} {T : Tab} {n : Nat} {ρ : Env} {a : Act}

theorem Tab.Ok.und (hT : T.Ok P) {t : Nat} {d : D} (h : T.d t = d) (hd : d ≠ .other) : ∃ x, P.underlying t = some x ∧ D.of x = d := by
  unfold Tab.d at h
  cases hl : look T.recs t with
  | none => rw [hl] at h; exact absurd h.symm hd
  | some r => rw [hl] at h; obtain ⟨⟨x, hx, hx2⟩, _⟩ := hT.recs t r hl; exact ⟨x, hx, hx2.trans h⟩
theorem und_int {t : Nat} {k : IntKind} (hT : T.Ok P) (h : T.d t = .int k) : P.underlying t = some (.int k) := by
  obtain ⟨x, hx, hd⟩ := hT.und h (by simp)
  cases x <;> simp [D.of] at hd
  subst hd; exact hx
theorem und_bool {t : Nat} (hT : T.Ok P) (h : T.d t = .bool) : P.underlying t = some .bool := by
  obtain ⟨x, hx, hd⟩ := hT.und h (by simp)
  cases x <;> simp [D.of] at hd
  exact hx
theorem und_ptr {t e : Nat} (hT : T.Ok P) (h : T.d t = .ptr e) : P.underlying t = some (.pointer e) := by
  obtain ⟨x, hx, hd⟩ := hT.und h (by simp)
  cases x <;> simp [D.of] at hd
  subst hd; exact hx
theorem und_slice {t e : Nat} (hT : T.Ok P) (h : T.d t = .slice e) : P.underlying t = some (.slice e) := by
  obtain ⟨x, hx, hd⟩ := hT.und h (by simp)
  cases x <;> simp [D.of] at hd
  subst hd; exact hx
theorem und_arr {t m e : Nat} (hT : T.Ok P) (h : T.d t = .arr m e) : P.underlying t = some (.array m e) := by
  obtain ⟨x, hx, hd⟩ := hT.und h (by simp)
  cases x <;> simp [D.of] at hd
  obtain ⟨rfl, rfl⟩ := hd; exact hx
theorem und_map {t k e : Nat} (hT : T.Ok P) (h : T.d t = .map k e) : P.underlying t = some (.map k e) := by
  obtain ⟨x, hx, hd⟩ := hT.und h (by simp)
  cases x <;> simp [D.of] at hd
  obtain ⟨rfl, rfl⟩ := hd; exact hx
theorem und_struct {t : Nat} {fs : List (Nat × Nat)} (hT : T.Ok P) (h : T.d t = .struct fs) : ∃ gs, P.underlying t = some (.struct gs) ∧ gs.toList.map (fun f => (f.type, f.offset)) = fs := by
  obtain ⟨x, hx, hd⟩ := hT.und h (by simp)
  cases x <;> simp [D.of] at hd
  exact ⟨_, hx, by simpa using hd⟩
theorem look_size {t : Nat} {q : Rec} (hT : T.Ok P) (h : look T.recs t = some q) (w : World) : (sizeOf t).run P w = .ok q.size w := by
  obtain ⟨_, i, z, hi, hs, _⟩ := hT.recs t q h
  simp [sizeOf, typeInfo, hi, hs]
theorem look_zero {t : Nat} {q : Rec} (hT : T.Ok P) (h : look T.recs t = some q) : ∃ z : Value, z.cells.toList = q.zero ∧ ∀ w, (zeroValue t).run P w = .ok z w := by
  obtain ⟨_, i, z, hi, _, _, hz, hc⟩ := hT.recs t q h
  exact ⟨z, hc, fun w => by simp [zeroValue, typeInfo, hi, hz]⟩
theorem look_isAgg {t : Nat} {q : Rec} (hT : T.Ok P) (h : look T.recs t = some q) (w : World) :
    (isAgg t).run P w = .ok q.d.agg w := by
  obtain ⟨⟨d, hd, he⟩, _⟩ := hT.recs t q h
  rw [← he]
  simp only [isAgg, Sem.run_bind, run_underlying hd, Result.andThen_ok]
  cases d <;> simp [D.of, D.agg]
theorem look_d {t : Nat} {q : Rec} (h : look T.recs t = some q) : T.d t = q.d := by unfold Tab.d; rw [h]

def ExecsTo (P : Program) (s : Sem Next) (v : Value) : Prop := ∀ w, s.run P w = .ok (.value v) w

theorem W_some {o : Option Value} {K : Value → Prop} (h : W o K) : ∃ v, o = some v ∧ K v := by
  cases o with
  | none => exact h.elim
  | some v => exact ⟨v, rfl, h⟩

theorem sound_intOp {op : BinOp} {k : IntKind} {x y : Int} {K : Value → Prop} (h : intOp op k x y K) (hs : isShift op = false) :
    ∃ v, K v ∧ ∀ t w, (binOp op t (.int k x) (.int k y)).run P w = .ok v w := by
  cases op <;> simp only [intOp] at h <;> (try (exact h.elim)) <;> (try (simp [isShift] at hs; done))
  case quo => unfold Sd at h; exact ⟨_, h.2, fun t w => by simp [binOp, Op.intDiv, h.1]⟩
  case rem => unfold Sd at h; exact ⟨_, h.2, fun t w => by simp [binOp, Op.intDiv, h.1]⟩
  all_goals exact ⟨_, h, fun t w => by simp [binOp, Op.intArith, Op.intCmp, Op.intBits, bits]; try rfl⟩

theorem eqGuard_ok (op : BinOp) (t : TypeId) (x y : Operand) (u v : Value) (h : ∀ cs ds, ¬ (u = .agg cs ∧ v = .agg ds)) (h2 : ¬ (u = .nilIface ∧ v = .nilIface)) (w : World) :
    (eqGuard op t x y u v).run P w = .ok () w := by
  cases op <;> first
    | rfl
    | (cases u <;> first
        | rfl
        | (cases v <;> first | rfl | exact absurd ⟨rfl, rfl⟩ h2 | exact absurd ⟨rfl, rfl⟩ (h _ _)))

theorem equalIn_nilptr {t e : Nat} {a : Option Addr} (ht : P.underlying t = some (.pointer e)) (d : Nat) (w : World) : (Op.equalIn (d + 1) t (.pointer a) (.pointer none)).run P w = .ok a.isNone w := by
  cases a <;> simp [Op.equalIn, run_underlying ht]
theorem equalIn_nilslice {t e m c m' c' : Nat} {a : Option Addr} (ht : P.underlying t = some (.slice e)) (d : Nat) (w : World) : (Op.equalIn (d + 1) t (.slice a m c) (.slice none m' c')).run P w = .ok a.isNone w := by
  cases a <;> simp [Op.equalIn, run_underlying ht]
theorem equalIn_nilmap {t k e : Nat} {a : Option Nat} (ht : P.underlying t = some (.map k e)) (d : Nat) (w : World) : (Op.equalIn (d + 1) t (.map a) (.map none)).run P w = .ok a.isNone w := by
  cases a <;> simp [Op.equalIn, run_underlying ht]
theorem equalIn_bool {t : Nat} {a b : Bool} (ht : P.underlying t = some .bool) (d : Nat) (w : World) : (Op.equalIn (d + 1) t (.bool a) (.bool b)).run P w = .ok (a == b) w := by
  simp [Op.equalIn, run_underlying ht]
theorem equal_nilptr {t e : Nat} {a : Option Addr} (ht : P.underlying t = some (.pointer e)) (w : World) : (Op.equal t (.pointer a) (.pointer none)).run P w = .ok a.isNone w :=
  equalIn_nilptr ht 9999 w
theorem equal_nilslice {t e m c m' c' : Nat} {a : Option Addr} (ht : P.underlying t = some (.slice e)) (w : World) : (Op.equal t (.slice a m c) (.slice none m' c')).run P w = .ok a.isNone w :=
  equalIn_nilslice ht 9999 w
theorem equal_nilmap {t k e : Nat} {a : Option Nat} (ht : P.underlying t = some (.map k e)) (w : World) : (Op.equal t (.map a) (.map none)).run P w = .ok a.isNone w :=
  equalIn_nilmap ht 9999 w
theorem equal_bool {t : Nat} {a b : Bool} (ht : P.underlying t = some .bool) (w : World) : (Op.equal t (.bool a) (.bool b)).run P w = .ok (a == b) w :=
  equalIn_bool ht 9999 w

theorem sound_binV (hT : T.Ok P) {op : BinOp} {t : Nat} {x y : Value} {K : Value → Prop} (h : binV (T.d t) op x y K) (X Y : Operand) :
    ∃ v, K v ∧ ∀ w, ((do eqGuard op t X Y x y; binOp op t x y : Sem Value)).run P w = .ok v w := by
  unfold binV at h
  cases hs : isShift op with
  | true =>
    rw [hs] at h
    cases x <;> try (exact h.elim)
    cases y <;> try (exact h.elim)
    rename_i k x k' y
    simp only at h
    unfold Sd at h
    refine ⟨_, h.2, fun w => ?_⟩
    rw [Sem.run_bind, eqGuard_ok _ _ _ _ _ _ (by simp) (by simp)]
    cases op <;> simp [isShift] at hs <;> simp [binOp, Op.shift, shiftV, Int.not_lt.2 h.1]
  | false =>
    rw [hs] at h
    cases x <;> try (exact h.elim)
    case bool x =>
      cases y <;> try (exact h.elim)
      simp only at h
      split at h
      · rename_i hd; exact ⟨_, h, fun w => by rw [Sem.run_bind, eqGuard_ok _ _ _ _ _ _ (by simp) (by simp)]; simp [binOp, equal_bool (und_bool hT hd)]⟩
      · rename_i hd; exact ⟨_, h, fun w => by rw [Sem.run_bind, eqGuard_ok _ _ _ _ _ _ (by simp) (by simp)]; simp [binOp, equal_bool (und_bool hT hd)]⟩
      · exact h.elim
    case int k x =>
      cases y <;> try (exact h.elim)
      rename_i k' y
      simp only at h
      cases hk : kindEq k k' with
      | false => rw [hk] at h; exact h.elim
      | true =>
        rw [hk] at h
        have := beq_ctor hk; subst this
        obtain ⟨v, hv, hr⟩ := sound_intOp (P := P) h hs
        exact ⟨v, hv, fun w => by rw [Sem.run_bind, eqGuard_ok _ _ _ _ _ _ (by simp) (by simp), Result.andThen_ok, hr]⟩
    case pointer x =>
      cases y <;> try (exact h.elim)
      rename_i y
      cases y <;> try (exact h.elim)
      simp only at h
      split at h
      · rename_i e hd; exact ⟨_, h, fun w => by rw [Sem.run_bind, eqGuard_ok _ _ _ _ _ _ (by simp) (by simp)]; simp [binOp, equal_nilptr (und_ptr hT hd)]⟩
      · rename_i e hd; exact ⟨_, h, fun w => by rw [Sem.run_bind, eqGuard_ok _ _ _ _ _ _ (by simp) (by simp)]; simp [binOp, equal_nilptr (und_ptr hT hd)]⟩
      · exact h.elim
    case slice x m c =>
      cases y <;> try (exact h.elim)
      rename_i y m' c'
      cases y <;> try (exact h.elim)
      simp only at h
      split at h
      · rename_i e hd; exact ⟨_, h, fun w => by rw [Sem.run_bind, eqGuard_ok _ _ _ _ _ _ (by simp) (by simp)]; simp [binOp, equal_nilslice (und_slice hT hd)]⟩
      · rename_i e hd; exact ⟨_, h, fun w => by rw [Sem.run_bind, eqGuard_ok _ _ _ _ _ _ (by simp) (by simp)]; simp [binOp, equal_nilslice (und_slice hT hd)]⟩
      · exact h.elim
    case map x =>
      cases y <;> try (exact h.elim)
      rename_i y
      cases y <;> try (exact h.elim)
      simp only at h
      split at h
      · rename_i k e hd; exact ⟨_, h, fun w => by rw [Sem.run_bind, eqGuard_ok _ _ _ _ _ _ (by simp) (by simp)]; simp [binOp, equal_nilmap (und_map hT hd)]⟩
      · rename_i k e hd; exact ⟨_, h, fun w => by rw [Sem.run_bind, eqGuard_ok _ _ _ _ _ _ (by simp) (by simp)]; simp [binOp, equal_nilmap (und_map hT hd)]⟩
      · exact h.elim

theorem fill_foldl (vs : List Value) : ∀ (off : Nat) (cs : List Value), off + vs.length ≤ cs.length →
    (vs.zipIdx.foldl (fun (cs : Array Value) (x : Value × Nat) => cs.setIfInBounds (off + x.2) x.1) cs.toArray) = (cs.take off ++ vs ++ cs.drop (off + vs.length)).toArray := by
  suffices H : ∀ (k off : Nat) (cs : List Value), off + k + vs.length ≤ cs.length →
      ((vs.zipIdx k).foldl (fun (cs : Array Value) (x : Value × Nat) => cs.setIfInBounds (off + x.2) x.1) cs.toArray) = (cs.take (off + k) ++ vs ++ cs.drop (off + k + vs.length)).toArray from
    fun off cs h => H 0 off cs h
  induction vs with
  | nil => intro k off cs h; simp
  | cons v vs ih =>
    intro k off cs h
    simp only [List.zipIdx_cons, List.foldl_cons, List.setIfInBounds_toArray]
    rw [ih (k + 1) off _ (by simp only [List.length_cons, List.length_set] at *; omega)]
    congr 1
    have hk : off + k < cs.length := by simp only [List.length_cons] at h; omega
    have h1 : List.take (off + (k + 1)) (cs.set (off + k) v) = cs.take (off + k) ++ [v] := by
      rw [← Nat.add_assoc, List.take_succ_eq_append_getElem (by simpa using hk)]
      simp [List.take_set_of_le]
    have h2 : List.drop (off + (k + 1) + vs.length) (cs.set (off + k) v) = cs.drop (off + k + (v :: vs).length) := by
      rw [List.drop_set_of_lt (by omega)]
      congr 1
      simp only [List.length_cons]; omega
    rw [h1, h2]
    simp

theorem cells_eq (v : Value) : v.cells.toList = cellsL v := by cases v <;> rfl
theorem fill_ok (place : Nat → Option (Nat × Nat)) : ∀ (ps : List (Nat × Value)) (qs : List (Nat × List Value)) (cs : List Value),
    ps.map (fun p => (place p.1, cellsL p.2)) = qs.map (fun q => (some (q.1, q.2.length), q.2)) →
    qs.all (fun p => Nat.ble (p.1 + p.2.length) cs.length) = true →
    Instr.fill place cs.toArray ps = some (fillL cs qs).toArray := by
  intro ps
  induction ps with
  | nil => intro qs cs h _; cases qs with | nil => rfl | cons q qs => simp at h
  | cons p ps ih =>
    intro qs cs h hall
    cases qs with
    | nil => simp at h
    | cons q qs =>
      obtain ⟨i, v⟩ := p
      obtain ⟨off, vs⟩ := q
      simp only [List.map_cons, List.cons.injEq, Prod.mk.injEq] at h
      obtain ⟨⟨h1, h2⟩, h3⟩ := h
      simp only [List.all_cons, Bool.and_eq_true, Nat.ble_eq] at hall
      obtain ⟨hlen, hall⟩ := hall
      have hcs : v.cells = vs.toArray := by rw [← h2, ← cells_eq]
      simp only [Instr.fill, h1, fillL]
      rw [hcs]
      rw [if_neg (by simp; omega)]
      have hz : (Array.zipIdx vs.toArray).foldl (fun (cs : Array Value) (x : Value × Nat) => match x with | (c, j) => cs.setIfInBounds (off + j) c) cs.toArray = (cs.take off ++ vs ++ cs.drop (off + vs.length)).toArray := by
        rw [← fill_foldl vs off cs hlen]
        simp
      rw [hz]
      refine ih qs _ h3 ?_
      rw [← hall]
      congr 1
      funext p
      have : (List.take off cs ++ vs ++ List.drop (off + vs.length) cs).length = cs.length := by simp; omega
      rw [this]

theorem partsL_ok (hρ : ρ.Ok n a) (fs : List (Nat × Nat)) : ∀ (l : List (Nat × Operand)) (qs : List (Nat × List Value)), partsL fs T.recs ρ l = some qs →
    ∀ (place : Nat → Option (Nat × Nat)), (∀ i t off q, fs[i]? = some (t, off) → look T.recs t = some q → place i = some (off, q.size)) →
    (l.map fun p => (p.1, a.eval p.2)).map (fun p => (place p.1, cellsL p.2)) = qs.map (fun q => (some (q.1, q.2.length), q.2)) := by
  intro l
  induction l with
  | nil => intro qs h place _; simp [partsL] at h; subst h; rfl
  | cons p l ih =>
    intro qs h place hp
    obtain ⟨i, x⟩ := p
    simp only [partsL] at h
    cases h1 : fs[i]? with
    | none => simp [h1] at h
    | some to =>
      obtain ⟨t, off⟩ := to
      cases h2 : ev ρ x with
      | none => simp [h1, h2] at h
      | some v =>
        cases h3 : partsL fs T.recs ρ l with
        | none => simp [h1, h2, h3] at h
        | some ps =>
          simp only [h1, h2, h3] at h
          cases h4 : look T.recs t with
          | none => simp [h4] at h
          | some q =>
            simp only [h4] at h
            cases h5 : Nat.beq (cellsL v).length q.size with
            | false => simp [h5] at h
            | true =>
              simp only [h5, Option.some.injEq] at h
              subst h
              have := Nat.eq_of_beq_eq_true h5
              simp [hρ.ev h2, hp i t off q h1 h4, this]
              simpa using ih ps h3 place hp

theorem foldI_ok {f : Int → Int → Int} {g : Value → Value → Sem Value} (hg : ∀ k x y w, (g (.int k x) (.int k y)).run P w = .ok (.int k (f x y)) w) {k : IntKind} :
    ∀ (r : List Value) (x : Int) (v : Value), foldI f k x r = some v → ∀ w, (r.foldlM g (.int k x)).run P w = .ok v w := by
  intro r
  induction r with
  | nil => intro x v h w; simp [foldI] at h; subst h; rfl
  | cons y r ih =>
    intro x v h w
    cases y <;> simp only [foldI] at h <;> try (cases h; done)
    rename_i k' b
    cases hk : kindEq k k' with
    | false => rw [hk] at h; cases h
    | true =>
      rw [hk] at h
      have := beq_ctor hk; subst this
      rw [List.foldlM_cons, Sem.run_bind, hg, Result.andThen_ok]
      exact ih _ _ h w

theorem optInt_ok (hρ : ρ.Ok n a) {d : Int} {x : Option Operand} {m : Int} (h : optInt ρ d x = some m) :
    (x = none ∧ m = d) ∨ ∃ o k, x = some o ∧ a.eval o = .int k m := by
  cases x with
  | none => simp [optInt] at h; exact .inl ⟨rfl, h.symm⟩
  | some o =>
    simp only [optInt] at h
    cases he : ev ρ o with
    | none => simp [he] at h
    | some v => cases v <;> simp [he] at h; subst h; exact .inr ⟨o, _, rfl, hρ.ev he⟩

theorem sliceBound_ok {k : IntKind} {i : Int} {y : Nat} {c : BoundsCode} (h : 0 ≤ i ∧ i ≤ y) (w : World) : (Instr.sliceBound (.int k i) y c).run P w = .ok i.toNat w := by
  simp [Instr.sliceBound, asIntOf, h]
end
end Go.Vc
