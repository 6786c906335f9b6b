/- Rows: a struct of whole numbers as an argument. -/
import Derived.Test.YtdhbpklmkibmbaaGreatVcI
import Derived.WalkKit
import Derived.ProofKit
import Derived.OpenShut
import Derived.ShutString
import Derived.ChangeOld
import Derived.Below
import Derived.Carry
import Derived.SizedLaws
import Derived.Lib.SmallJoins
import Derived.Deep.Slices
import Derived.Laws.StructEq
namespace Go.Vc
open Go.ChangeShapes Go.WideShapes Go.ChangeAt Go.RowKit Go.Joins

/-- All its fields are whole numbers of 64 bits, one cell each, in order. -/
def intFields (P : Program) (fs : Array Field) : Bool :=
  (List.range fs.size).all fun j => match fs[j]? with
    | some f => Nat.beq f.offset j && (Nat.beq (P.cellsOf f.type) 1 && (match P.underlying f.type with | some (.int .i64) => true | _ => false))
    | none => false
def cellInt : Option Value → Int
  | some (.int _ z) => z
  | _ => 0
theorem open_ints_agg {H : Type} {enc : TypeId × Value → H} {P : Program} {w : World} {base : Nat} {spare : Nat → Bool} {held : Bool} {r : Reach} {b0 : Nat} {t : TypeId} {fs : Array Field} {v : Value} {d : DataW H} {p : List MemPlace}
    (hs : P.underlying t = some (.struct fs)) (hf : intFields P fs = true) (hC : P.cellsOf t = fs.size) (hv : Value.okWide P w r b0 t v) (h : DataW.Trod enc P w base spare held t v d p) :
    ∃ zs : List Int, v = .agg (zs.map (.int .i64)).toArray ∧ zs.length = fs.size := by
  obtain ⟨cs, rfl, hsz⟩ := okWide_struct hs hv
  obtain ⟨fuel, ht⟩ := h
  obtain ⟨xs, n, _, _, hl, hlen, hx⟩ := DataW.trod_struct hs ht
  have hsz : cs.size = fs.size := hsz.trans hC
  have each : ∀ j, j < fs.size → ∃ z : Int, cs.toList[j]? = some (.int .i64 z) := by
    intro j hj
    have hjf : fs[j]? = some fs[j] := Array.getElem?_eq_getElem hj
    have h1 := List.all_eq_true.1 hf j (List.mem_range.2 hj)
    rw [hjf] at h1
    simp only [Bool.and_eq_true] at h1
    obtain ⟨h2, h3, h4⟩ := h1
    have h2 := Nat.eq_of_beq_eq_true h2
    have h3 := Nat.eq_of_beq_eq_true h3
    have hu : P.underlying fs[j].type = some (.int .i64) := by
      split at h4
      · assumption
      · cases h4
    have hxj := hx j fs[j] hjf
    rw [h2, h3] at hxj
    have hjc : j < cs.toList.length := by simpa using (by omega : j < cs.size)
    have hd : (cs.toList.drop j).take 1 = [cs.toList[j]] := by
      rw [List.drop_eq_getElem_cons hjc]; rfl
    have hxl : j < xs.length := by omega
    have hxj : DataW.trod enc P w base spare held n fs[j].type [cs.toList[j]] = some xs[j] := by
      rw [← hd]
      exact hxj.trans (List.getElem?_eq_getElem hxl)
    obtain ⟨z, e, _, _⟩ := DataW.trod_int hu hxj
    injection e with e _
    exact ⟨z, by rw [List.getElem?_eq_getElem hjc, e]⟩
  refine ⟨(List.range fs.size).map fun (j : Nat) => cellInt (cs.toList[j]?), ?_, by simp⟩
  congr 1
  apply Array.toList_inj.1
  apply List.ext_getElem?
  intro j
  by_cases hj : j < fs.size
  · obtain ⟨z, e⟩ := each j hj
    simp [hj] at e ⊢
    simp [e, cellInt]
  · have hc : ¬ j < cs.size := by omega
    simp [hj, hc]

/-- A row of whole numbers that came in. -/
theorem open_int_row {H : Type} {enc : TypeId × Value → H} {P : Program} {w : World} {base : Nat} {t e : TypeId} {k : IntKind} {a : Option Addr} {len cap : Nat} {d : DataW H} {p : List MemPlace} {lo hi : Int}
    (ht : P.underlying t = some (.slice e)) (he : P.underlying e = some (.int k)) (hc : P.cellsOf e = 1) (hb : ∀ z, (Lit.int k z).wf = true → lo ≤ z ∧ z ≤ hi)
    (h : DataW.Trod enc P w base (fun _ => true) true t (.slice a len cap) d p) :
    ∃ zs, RowArg w k a len zs ∧ (∀ z ∈ zs, lo ≤ z ∧ z ≤ hi) ∧ len ≤ 9223372036854775807 := by
  obtain ⟨fuel, hf⟩ := h
  rcases open_ints ht he hc hf with ⟨hcs, _⟩ | ⟨x, l, c, zs, hcs, _, hl, hm, hz, _, hcell, hwz⟩
  · simp [Value.cells] at hcs
    obtain ⟨rfl, rfl, rfl⟩ := hcs
    exact ⟨[], .inl ⟨rfl, rfl, rfl⟩, fun _ h => (by cases h), by omega⟩
  · simp [Value.cells] at hcs
    obtain ⟨rfl, rfl, rfl⟩ := hcs
    have hz : zs.length = cap := by simpa using hz
    refine ⟨zs, .inr ⟨x, rfl, by omega, fun i z hi => ?_⟩, fun z hz => hb z (hwz z hz), ?_⟩
    · have hlt : i < zs.length := (List.getElem?_eq_some_iff.1 hi).1
      rw [hcell i hlt]
      simp [List.getD, hi]
    · have : maxLen = 9223372036854775807 := rfl
      omega
/-- What a struct's cells may be: whole numbers and bools, one cell each. -/
def leafFields (P : Program) (fs : Array Field) (ks : List (Option IntKind)) : Bool :=
  Nat.beq fs.size ks.length && (List.range fs.size).all fun j => match fs[j]?, ks[j]? with
    | some f, some k => Nat.beq f.offset j && (Nat.beq (P.cellsOf f.type) 1 && (match P.underlying f.type, k with | some (.int i), some k => kindEq i k | some .bool, none => true | _, _ => false))
    | _, _ => false
def LeafV : Option IntKind → Value → Prop
  | some k, v => ∃ z, v = .int k z ∧ (Lit.int k z).wf = true
  | none, v => ∃ b, v = .bool b
def LeafRow (ks : List (Option IntKind)) (cs : List Value) : Prop := cs.length = ks.length ∧ ∀ (j : Nat) (k : Option IntKind), ks[j]? = some k → ∃ v, cs[j]? = some v ∧ LeafV k v
theorem LeafRow.cons {k : Option IntKind} {ks : List (Option IntKind)} {cs : List Value} (h : LeafRow (k :: ks) cs) : ∃ v r, cs = v :: r ∧ LeafV k v ∧ LeafRow ks r := by
  obtain ⟨hl, h⟩ := h
  cases cs with
  | nil => cases hl
  | cons v r =>
    obtain ⟨u, hu, hv⟩ := h 0 k rfl
    injection hu with hu
    subst hu
    exact ⟨_, r, rfl, hv, by simpa using hl, fun j k hj => by simpa using h (j + 1) k (by simpa using hj)⟩
theorem LeafRow.nil {cs : List Value} (h : LeafRow [] cs) : cs = [] := List.eq_nil_of_length_eq_zero h.1
/-- Rows of a struct that came in: their cells. -/
def RowsArg (w : World) (n : Nat) (a : Option Addr) (len : Nat) (css : List (List Value)) : Prop :=
  css.length = len ∧ (len = 0 ∨ ∃ x, a = some x ∧ ∀ (i : Nat) (cs : List Value), css[i]? = some cs → ∀ (j : Nat) (v : Value), cs[j]? = some v → w.cell? ((x.add (i * n)).add j) = some v)
theorem RowsArg.keep {w w' : World} {n : Nat} {a : Option Addr} {len : Nat} {css : List (List Value)} (h : RowsArg w n a len css) (f : Fr No w w') : RowsArg w' n a len css := by
  obtain ⟨hl, h⟩ := h
  refine ⟨hl, ?_⟩
  rcases h with h | ⟨x, ha, hc⟩
  · exact .inl h
  · refine .inr ⟨x, ha, fun i cs hi j v hj => ?_⟩
    have h1 := hc i cs hi j v hj
    have hb := World.block_lt_of_cell? w _ h1
    unfold World.cell? at h1 ⊢
    rw [f.blk _ hb (fun e => e)]; exact h1
theorem RowsArg.at {w : World} {n : Nat} {a : Option Addr} {len : Nat} {css : List (List Value)} (h : RowsArg w n a len css) {i : Nat} (hi : i < len) : ∃ x cs, a = some x ∧ css[i]? = some cs ∧ ∀ (j : Nat) (v : Value), cs[j]? = some v → w.cell? ((x.add (i * n)).add j) = some v := by
  obtain ⟨hl, h⟩ := h
  rcases h with h | ⟨x, ha, hc⟩
  · omega
  · have hlt : i < css.length := by omega
    exact ⟨x, _, ha, List.getElem?_eq_getElem hlt, hc i _ (List.getElem?_eq_getElem hlt)⟩
theorem LdN_cells {w : World} {ad : Addr} {K : List Value → Prop} {n : Nat} {vs : List Value} (h : ∀ (j : Nat) (v : Value), vs[j]? = some v → w.cell? (ad.add j) = some v) (hn : vs.length = n) (k : K vs) : LdN w ad 0 n K := by
  subst hn
  suffices H : ∀ (vs : List Value) (i : Nat) (K : List Value → Prop), (∀ (j : Nat) (v : Value), vs[j]? = some v → w.cell? (ad.add (i + j)) = some v) → K vs → LdN w ad i vs.length K from
    H vs 0 K (fun j v hj => by rw [Nat.zero_add]; exact h j v hj) k
  intro vs
  induction vs with
  | nil => intro i K _ k; exact LdN_zero' k
  | cons v vs ih =>
    intro i K hc k
    exact LdN_cons' (LdC_intro (hc 0 v rfl) (ih (i + 1) _ (fun j u hj => by rw [show i + 1 + j = i + (j + 1) by omega]; exact hc (j + 1) u hj) k))
theorem open_rows {H : Type} {enc : TypeId × Value → H} {P : Program} {w : World} {base : Nat} {t e : TypeId} {fs : Array Field} {ks : List (Option IntKind)} {a : Option Addr} {len cap : Nat} {d : DataW H} {p : List MemPlace}
    (ht : P.underlying t = some (.slice e)) (hs : P.underlying e = some (.struct fs)) (hf : leafFields P fs ks = true) (hC : P.cellsOf e = ks.length)
    (h : DataW.Trod enc P w base (fun _ => true) true t (.slice a len cap) d p) :
    ∃ css, RowsArg w ks.length a len css ∧ (∀ cs ∈ css, LeafRow ks cs) ∧ len ≤ 9223372036854775807 := by
  obtain ⟨fuel, hfu⟩ := h
  rcases Deep.open_slice ht hfu with ⟨hcs, _⟩ | ⟨x, l, c, m, n, D, Pl, hcs, _, hl, hm, hmm, _, hx⟩
  · simp [Value.cells] at hcs
    obtain ⟨rfl, rfl, rfl⟩ := hcs
    exact ⟨[], ⟨rfl, .inl rfl⟩, fun _ h => (by cases h), by omega⟩
  · simp [Value.cells] at hcs
    obtain ⟨rfl, rfl, rfl⟩ := hcs
    rw [hC] at hx
    have hmm : m = cap := by simpa using hmm
    simp only [leafFields, Bool.and_eq_true] at hf
    have hfs := Nat.eq_of_beq_eq_true hf.1
    have one : ∀ i, i < len → ∃ cs : List Value, LeafRow ks cs ∧ ∀ (j : Nat) (v : Value), cs[j]? = some v → w.cell? ((x.add (i * ks.length)).add j) = some v := by
      intro i hi
      obtain ⟨cs, h1, h2⟩ := hx i (by omega)
      obtain ⟨_, h3, h4⟩ := World.cells?_some h1
      refine ⟨cs, ⟨h3, fun j k hj => ?_⟩, fun j v hj => ?_⟩
      · obtain ⟨xs, n', _, _, _, hlen, hxx⟩ := DataW.trod_struct hs h2
        have hjk : j < ks.length := (List.getElem?_eq_some_iff.1 hj).1
        have hjf : fs[j]? = some (fs[j]'(by omega)) := Array.getElem?_eq_getElem (by omega)
        have h5 := List.all_eq_true.1 hf.2 j (List.mem_range.2 (by omega))
        rw [hjf, hj] at h5
        simp only [Bool.and_eq_true] at h5
        obtain ⟨h6, h7, h8⟩ := h5
        have h6 := Nat.eq_of_beq_eq_true h6
        have h7 := Nat.eq_of_beq_eq_true h7
        have hxj := hxx j _ hjf
        rw [h6, h7, List.getElem?_eq_getElem (show j < xs.length by omega)] at hxj
        have hjc : j < cs.length := by omega
        have hd : (cs.drop j).take 1 = [cs[j]] := by rw [List.drop_eq_getElem_cons hjc]; rfl
        rw [hd] at hxj
        refine ⟨cs[j], List.getElem?_eq_getElem hjc, ?_⟩
        split at h8
        · rename_i ik k' hu
          obtain ⟨z, e, _, hw⟩ := DataW.trod_int hu hxj
          injection e with e _
          have := beq_ctor h8
          subst this
          exact ⟨z, e, hw⟩
        · rename_i hu
          obtain ⟨b, e, _⟩ := DataW.trod_bool hu hxj
          injection e with e _
          exact ⟨b, e⟩
        · cases h8
      · rw [h4 j (by have := (List.getElem?_eq_some_iff.1 hj).1; omega)]; exact hj
    obtain ⟨f, hfn⟩ := Deep.choose_lt (α := List Value) (p := fun i cs => LeafRow ks cs ∧ ∀ (j : Nat) (v : Value), cs[j]? = some v → w.cell? ((x.add (i * ks.length)).add j) = some v) one
    refine ⟨(List.range len).map f, ⟨by simp, .inr ⟨x, rfl, fun i cs hi => ?_⟩⟩, fun cs hcs => ?_, ?_⟩
    · rw [List.getElem?_map] at hi
      by_cases hil : i < len
      · rw [List.getElem?_range hil] at hi
        injection hi with hi
        subst hi
        exact (hfn i hil).2
      · rw [List.getElem?_eq_none (by simp; omega)] at hi; cases hi
    · obtain ⟨i, hi, rfl⟩ := List.mem_map.1 hcs
      exact (hfn i (List.mem_range.1 hi)).1
    · have : maxLen = 9223372036854775807 := rfl
      omega
end Go.Vc
/- A struct of whole numbers of any width and of bools as an argument. -/
namespace Go.Vc
open Go.ChangeShapes Go.WideShapes Go.ChangeAt Go.RowKit Go.Joins

theorem open_leaf_agg {H : Type} {enc : TypeId × Value → H} {P : Program} {w : World} {base : Nat} {spare : Nat → Bool} {held : Bool} {r : Reach} {b0 : Nat} {t : TypeId} {fs : Array Field} {ks : List (Option IntKind)} {v : Value} {d : DataW H} {p : List MemPlace}
    (hs : P.underlying t = some (.struct fs)) (hf : leafFields P fs ks = true) (hC : P.cellsOf t = ks.length) (hv : Value.okWide P w r b0 t v) (h : DataW.Trod enc P w base spare held t v d p) :
    ∃ cs : List Value, v = .agg cs.toArray ∧ LeafRow ks cs := by
  obtain ⟨cs, rfl, hsz⟩ := okWide_struct hs hv
  obtain ⟨fuel, ht⟩ := h
  obtain ⟨xs, n, _, _, hl, hlen, hxx⟩ := DataW.trod_struct hs ht
  simp only [leafFields, Bool.and_eq_true] at hf
  have hfs := Nat.eq_of_beq_eq_true hf.1
  have hsz : cs.size = ks.length := hsz.trans hC
  refine ⟨cs.toList, by simp, by simpa using hsz, fun j k hj => ?_⟩
  have hjk : j < ks.length := (List.getElem?_eq_some_iff.1 hj).1
  have hjf : fs[j]? = some (fs[j]'(by omega)) := Array.getElem?_eq_getElem (by omega)
  have h5 := List.all_eq_true.1 hf.2 j (List.mem_range.2 (by omega))
  rw [hjf, hj] at h5
  simp only [Bool.and_eq_true] at h5
  obtain ⟨h6, h7, h8⟩ := h5
  have h6 := Nat.eq_of_beq_eq_true h6
  have h7 := Nat.eq_of_beq_eq_true h7
  have hxj := hxx j _ hjf
  rw [h6, h7, List.getElem?_eq_getElem (show j < xs.length by omega)] at hxj
  have hjc : j < cs.toList.length := by simpa using (by omega : j < cs.size)
  have hd : (cs.toList.drop j).take 1 = [cs.toList[j]] := by rw [List.drop_eq_getElem_cons hjc]; rfl
  have hxj : DataW.trod enc P w base spare held n (fs[j]'(by omega)).type [cs.toList[j]] = some (xs[j]'(by omega)) := by
    rw [← hd]; exact hxj
  refine ⟨cs.toList[j], List.getElem?_eq_getElem hjc, ?_⟩
  split at h8
  · rename_i ik k' hu
    obtain ⟨z, e, _, hw⟩ := DataW.trod_int hu hxj
    injection e with e _
    have := beq_ctor h8
    subst this
    exact ⟨z, e, hw⟩
  · rename_i hu
    obtain ⟨b, e, _⟩ := DataW.trod_bool hu hxj
    injection e with e _
    exact ⟨b, e⟩
  · cases h8
end Go.Vc
/- Structs of whole numbers and bools, held against one another. -/
namespace Go.Vc

def cellsEq : List Value → List Value → Bool
  | .int _ a :: r, .int _ b :: s => (a == b) && cellsEq r s
  | .bool a :: r, .bool b :: s => (a == b) && cellsEq r s
  | _, _ => true
/-- Fields of one cell each, in order, to be compared. -/
def eqLeaves (P : Program) : List Field → Nat → Bool
  | [], _ => true
  | f :: fs, i => (f.name != "_") && (Nat.beq f.offset i && ((match P.underlying f.type with | some (.int _) => true | some .bool => true | _ => false) && eqLeaves P fs (i + 1)))
theorem run_part_leaf {P : Program} {t : TypeId} {d : TypeDesc} (hd : P.underlying t = some d) (hl : (match (some d : Option TypeDesc) with | some (.int _) => true | some .bool => true | _ => false) = true) {xs : Array Value} {i : Nat} {v : Value} (h : xs[i]? = some v) (w : World) :
    (part t xs i).run P w = .ok v w := by
  have : (isAgg t).run P w = .ok false w := by
    simp only [isAgg, Sem.run_bind, run_underlying hd, Result.andThen_ok]
    cases d <;> simp at hl <;> simp
  simp [part, this, h]
/-- Cells that fit the fields. -/
def leafFit (P : Program) : List Field → List Value → Bool
  | [], [] => true
  | f :: fs, v :: vs => (match v, P.underlying f.type with | .int _ _, some (.int _) => true | .bool _, some .bool => true | _, _ => false) && leafFit P fs vs
  | _, _ => false
/-- Cells of the same kinds. -/
def alike : List Value → List Value → Bool
  | .int k _ :: r, .int k' _ :: s => kindEq k k' && alike r s
  | .bool _ :: r, .bool _ :: s => alike r s
  | [], [] => true
  | _, _ => false
theorem run_eqFields {P : Program} (w : World) (d : Nat) : ∀ (fs : List Field) (i : Nat) (xs ys : Array Value) (cs ds : List Value), xs.toList.drop i = cs → ys.toList.drop i = ds → eqLeaves P fs i = true → leafFit P fs cs = true → alike cs ds = true →
    (Op.eqFields (d + 1) xs ys fs).run P w = .ok (cellsEq cs ds) w := by
  intro fs
  induction fs with
  | nil =>
    intro i xs ys cs ds _ _ _ hf _
    cases cs with
    | nil => simp [Op.eqFields, cellsEq]
    | cons v vs => cases hf
  | cons f fs ih =>
    intro i xs ys cs ds hcs hds he hf ha
    simp only [eqLeaves, Bool.and_eq_true] at he
    obtain ⟨h1, h2, h3, h4⟩ := he
    have h2 := Nat.eq_of_beq_eq_true h2
    have hname : f.name ≠ "_" := by simpa using h1
    cases cs with
    | nil => cases hf
    | cons v vs =>
      cases ds with
      | nil => cases v <;> cases ha
      | cons u us =>
        have ex : xs[f.offset]? = some v := by
          have := congrArg (fun l => l[0]?) hcs
          rw [h2]; simpa using this
        have ey : ys[f.offset]? = some u := by
          have := congrArg (fun l => l[0]?) hds
          rw [h2]; simpa using this
        have hvs : xs.toList.drop (i + 1) = vs := by
          have := congrArg List.tail hcs
          simpa using this
        have hus : ys.toList.drop (i + 1) = us := by
          have := congrArg List.tail hds
          simpa using this
        simp only [leafFit, Bool.and_eq_true] at hf
        have hund : ∃ dd, P.underlying f.type = some dd ∧ (match (some dd : Option TypeDesc) with | some (.int _) => true | some .bool => true | _ => false) = true := by
          cases hu : P.underlying f.type with
          | none => rw [hu] at h3; cases h3
          | some dd => rw [hu] at h3; exact ⟨dd, rfl, h3⟩
        obtain ⟨dd, hu, hl2⟩ := hund
        simp only [Op.eqFields, if_pos hname, Sem.run_bind]
        rw [run_part_leaf hu hl2 ex, Result.andThen_ok, run_part_leaf hu hl2 ey, Result.andThen_ok]
        cases v with
        | int k a =>
          cases u with
          | int k' b =>
            simp only [alike, Bool.and_eq_true] at ha
            obtain ⟨hk, ha⟩ := ha
            have := beq_ctor hk
            subst this
            have hkk : ∃ kk, P.underlying f.type = some (.int kk) := by
              have h5 := hf.1
              rw [hu] at h5
              cases dd <;> simp at h5
              exact ⟨_, hu⟩
            obtain ⟨kk, hkk⟩ := hkk
            rw [run_equalIn_int w d f.type k kk a b hkk, Result.andThen_ok, Sem.run_ite]
            have := ih (i + 1) xs ys vs us hvs hus h4 hf.2 ha
            simp only [cellsEq]
            cases (a == b)
            · simp
            · simp [this]
          | _ => cases ha
        | bool a =>
          cases u with
          | bool b =>
            simp only [alike] at ha
            have hkk : P.underlying f.type = some .bool := by
              have h5 := hf.1
              rw [hu] at h5
              cases dd <;> simp at h5
              exact hu
            rw [run_equalIn_bool' w d f.type a b hkk, Result.andThen_ok, Sem.run_ite]
            have := ih (i + 1) xs ys vs us hvs hus h4 hf.2 ha
            simp only [cellsEq]
            cases (a == b)
            · simp
            · simp [this]
          | _ => cases ha
        | _ => cases hf.1
def eqStruct (P : Program) (t : TypeId) (cs ds : List Value) : Bool :=
  match P.underlying t with
  | some (.struct fs) => eqLeaves P fs.toList 0 && (leafFit P fs.toList cs && (alike cs ds && (!P.stoodInHeld t && !P.eqGuardType P.depth t)))
  | _ => false
/-- x == y for structs of whole numbers and bools. -/
theorem EqS {P : Program} {t : TypeId} {X Y : Operand} {cs ds : List Value} {w : World} {K : Value → World → Prop} (h : eqStruct P t cs ds = true) (k : K (.bool (cellsEq cs ds)) w) :
    RunC P (do eqGuard .eql t X Y (.agg cs.toArray) (.agg ds.toArray); binOp .eql t (.agg cs.toArray) (.agg ds.toArray)) w K := by
  unfold eqStruct at h
  split at h
  · rename_i fs hu
    simp only [Bool.and_eq_true, Bool.not_eq_true'] at h
    obtain ⟨h1, h2, h3, h4, h5⟩ := h
    have hfs : P.fieldsOf t = fs := by unfold Program.fieldsOf; rw [hu]
    refine RunC_intro (v := .bool (cellsEq cs ds)) (w' := w) ?_ k
    rw [Sem.run_bind, run_eqGuard_agg w _ t X Y _ _ h5, Result.andThen_ok, run_eql_struct, show (10000 : Nat) = 9999 + 1 from rfl, run_equalIn_struct w 9999 t _ _ (by rw [hfs]; exact hu) h4, hfs, show (9999 : Nat) = 9998 + 1 from rfl,
      run_eqFields w 9998 fs.toList 0 _ _ cs ds (by simp) (by simp) h1 h2 h3]
    rfl
  · cases h
theorem NeS {P : Program} {t : TypeId} {X Y : Operand} {cs ds : List Value} {w : World} {K : Value → World → Prop} (h : eqStruct P t cs ds = true) (k : K (.bool (!cellsEq cs ds)) w) :
    RunC P (do eqGuard .neq t X Y (.agg cs.toArray) (.agg ds.toArray); binOp .neq t (.agg cs.toArray) (.agg ds.toArray)) w K := by
  unfold eqStruct at h
  split at h
  · rename_i fs hu
    simp only [Bool.and_eq_true, Bool.not_eq_true'] at h
    obtain ⟨h1, h2, h3, h4, h5⟩ := h
    have hfs : P.fieldsOf t = fs := by unfold Program.fieldsOf; rw [hu]
    refine RunC_intro (v := .bool (!cellsEq cs ds)) (w' := w) ?_ k
    rw [Sem.run_bind, run_eqGuard_agg w _ t X Y _ _ h5, Result.andThen_ok, run_neq_struct, show (10000 : Nat) = 9999 + 1 from rfl, run_equalIn_struct w 9999 t _ _ (by rw [hfs]; exact hu) h4, hfs, show (9999 : Nat) = 9998 + 1 from rfl,
      run_eqFields w 9998 fs.toList 0 _ _ cs ds (by simp) (by simp) h1 h2 h3]
    rfl
  · cases h
end Go.Vc
