/- Keys of maps: pairs of whole numbers, and whole numbers. -/
import Derived.Test.YtdhbpklmkibmbaaGreatMapS
namespace Go.Vc
variable {P : Program}
theorem chk_leaf {t : TypeId} {d : TypeDesc} (hd : P.underlying t = some d) (hl : (match (some d : Option TypeDesc) with | some (.int _) => true | some .bool => true | _ => false) = true) (e : Bool) (n : Nat) (v : Value) (w : World) : (Instr.checkKey e (n + 1) t v).run P w = .ok () w := by
  cases d <;> simp at hl <;> simp [Instr.checkKey, run_underlying hd]
theorem chk_struct {t : TypeId} {fs : Array Field} (hu : P.underlying t = some (.struct fs)) (cs : List Value) (he : eqLeaves P fs.toList 0 = true) (hf : leafFit P fs.toList cs = true) (e : Bool) (n : Nat) (w : World) : (Instr.checkKey e (n + 2) t (.agg cs.toArray)).run P w = .ok () w := by
  rw [show n + 2 = (n + 1) + 1 from rfl, Instr.checkKey]
  simp only [Sem.run_bind, run_underlying hu, Result.andThen_ok]
  rw [← Array.forIn_toList]
  have key : ∀ (L : List Field) (i : Nat) (ds : List Value), cs.drop i = ds → eqLeaves P L i = true → leafFit P L ds = true →
      (forIn (m := Sem) L PUnit.unit fun f _ => do
        if f.name ≠ "_" then
          Instr.checkKey e (n + 1) f.type (← part f.type cs.toArray f.offset)
          pure (ForInStep.yield PUnit.unit)
        else pure (ForInStep.yield PUnit.unit)).run P w = .ok PUnit.unit w := by
    intro L
    induction L with
    | nil => intro i ds _ _ _; simp
    | cons f L ih =>
      intro i ds hds he hf
      simp only [eqLeaves, Bool.and_eq_true] at he
      obtain ⟨h1, h2, h3, h4⟩ := he
      have h2 := Nat.eq_of_beq_eq_true h2
      have hname : f.name ≠ "_" := by simpa using h1
      cases ds with
      | nil => cases hf
      | cons v vs =>
        simp only [leafFit, Bool.and_eq_true] at hf
        have ex : cs.toArray[f.offset]? = some v := by
          have := congrArg (fun l => l[0]?) hds
          rw [h2]; simpa using this
        have hvs : cs.drop (i + 1) = vs := by
          have := congrArg List.tail hds
          simpa using this
        obtain ⟨dd, hu2, hl2⟩ : ∃ dd, P.underlying f.type = some dd ∧ (match (some dd : Option TypeDesc) with | some (.int _) => true | some .bool => true | _ => false) = true := by
          cases hu : P.underlying f.type with
          | none => rw [hu] at h3; cases h3
          | some dd => rw [hu] at h3; exact ⟨dd, rfl, h3⟩
        simp only [List.forIn_cons, Sem.run_bind, hname, ne_eq, not_false_eq_true, if_true, Result.andThen_ok, run_part_leaf hu2 hl2 ex, chk_leaf hu2 hl2, Sem.run_pure]
        exact ih (i + 1) vs hvs h4 hf.2
  have := key fs.toList 0 cs rfl he hf
  simp at this ⊢
  rw [this]; rfl
theorem equal_struct {t : TypeId} {cs ds : List Value} (h : eqStruct P t cs ds = true) (w : World) : (Op.equal t (.agg cs.toArray) (.agg ds.toArray)).run P w = .ok (cellsEq cs ds) w := by
  unfold eqStruct at h
  split at h
  · rename_i fs hu
    simp only [Bool.and_eq_true, Bool.not_eq_true'] at h
    obtain ⟨h1, h2, h3, h4, h5⟩ := h
    have hfs : P.fieldsOf t = fs := by unfold Program.fieldsOf; rw [hu]
    unfold Op.equal
    rw [show (Op.maxDepth : Nat) = 9999 + 1 from rfl, run_equalIn_struct w 9999 t _ _ (by rw [hfs]; exact hu) h4, hfs, show (9999 : Nat) = 9998 + 1 from rfl, run_eqFields w 9998 fs.toList 0 _ _ cs ds (by simp) (by simp) h1 h2 h3]
  · cases h
def pairL (p : Int × Int) : List Value := [.int .i64 p.1, .int .i64 p.2]
def pairV (p : Int × Int) : Value := .agg (pairL p).toArray
theorem pairV_inj (a b : Int × Int) (h : pairV a = pairV b) : a = b := by
  unfold pairV pairL at h
  injection h with h
  have h := congrArg Array.toList h
  simp at h
  exact Prod.ext h.1 h.2
theorem pair_eq (a b : Int × Int) : cellsEq (pairL a) (pairL b) = decide (a = b) := by
  show ((a.1 == b.1) && ((a.2 == b.2) && true)) = _
  rw [Bool.eq_iff_iff]
  simp [Prod.ext_iff]
/-- A key among entries, asked one by one. -/
theorem find_ask {κ : Type} [DecidableEq κ] {kv : κ → Value} {t : TypeId} (heq : ∀ a b w, (Op.equal t (kv a) (kv b)).run P w = .ok (decide (a = b)) w) (k : κ) (w : World) : ∀ (es : List MapEntry) (m : List (κ × Value)) (i : Nat), es.map (·.key) = m.map (fun x => kv x.1) →
    (Instr.findAsking t (kv k) es i).run P w = .ok ((idxM m k).bind fun j => es[j]?.map fun e => (i + j, e.val)) w := by
  intro es
  induction es with
  | nil =>
    intro m i h
    cases m with
    | nil => simp [Instr.findAsking, idxM]
    | cons x m => cases h
  | cons e es ih =>
    intro m i h
    cases m with
    | nil => cases h
    | cons x m =>
      simp only [List.map_cons, List.cons.injEq] at h
      obtain ⟨h1, h2⟩ := h
      unfold idxM
      have hq := heq k x.1 w
      rw [← h1] at hq
      by_cases c : x.1 = k
      · rw [if_pos c]
        rw [decide_eq_true c.symm] at hq
        simp [Instr.findAsking, hq]
      · rw [if_neg c]
        rw [decide_eq_false (fun e => c e.symm)] at hq
        simp only [Instr.findAsking, Sem.run_bind, hq, Result.andThen_ok, Bool.false_eq_true, if_false]
        rw [ih m (i + 1) h2]
        cases idxM m k with
        | none => rfl
        | some j =>
          show Result.ok (es[j]?.map fun e => (i + 1 + j, e.val)) w = Result.ok (((e :: es)[j + 1]?).map fun e => (i + (j + 1), e.val)) w
          rw [List.getElem?_cons_succ, show i + 1 + j = i + (j + 1) by omega]
theorem pair_key {t : TypeId} (h : ∀ a b, eqStruct P t (pairL a) (pairL b) = true) : KeyOk P t pairV where
  chk e k w := by
    have hk := h k k
    unfold eqStruct at hk
    split at hk
    · rename_i fs hu
      simp only [Bool.and_eq_true, Bool.not_eq_true'] at hk
      exact chk_struct hu (pairL k) hk.1 hk.2.1 e 9998 w
    · cases hk
  fnd k es m w hes := by
    have hk := h k k
    unfold eqStruct at hk
    split at hk
    · rename_i fs hu
      have ha := find_ask (P := P) (kv := pairV) (t := t) (fun a b w => by rw [← pair_eq]; exact equal_struct (h a b) w) k w es m 0 hes
      have hz : ((idxM m k).bind fun j => es[j]?.map fun e => (0 + j, e.val)) = (idxM m k).bind fun i => es[i]?.map fun e => (i, e.val) := by simp
      rw [hz] at ha
      cases es with
      | nil =>
        cases m with
        | nil => simp [Instr.findKey, run_underlying hu, Instr.findNow, idxM]
        | cons x m => cases hes
      | cons e es =>
        have : Instr.findNow (.struct fs) (pairV k) (e :: es) 0 = none := rfl
        simp only [Instr.findKey, Sem.run_bind, run_underlying hu, Result.andThen_ok, this]
        exact ha
    · cases hk
  bits k := by
    show ((pairL k).toArray.size == (pairL k).toArray.size && _) = true
    simp [pairL, Instr.sameBits]
end Go.Vc
