/- Rows: a struct of whole numbers as an argument. -/
import Derived.Test.YtilhoimokegpjaaVcI
import Derived.WalkKit
import Derived.ProofKit
import Derived.OpenShut
import Derived.ShutString
import Derived.ChangeOld
import Derived.Below
import Derived.Carry
import Derived.SizedLaws
import Derived.Lib.SmallJoins
namespace Go.Vc
open Go.ChangeShapes Go.WideShapes Go.ChangeAt Go.RowKit Go.Joins

/-- All its fields are whole numbers of 64 bits, one cell each, in order. -/
def intFields (P : Program) (fs : Array Field) : Bool :=
  (List.range fs.size).all fun j => match fs[j]? with
    | some f => Nat.beq f.offset j && (Nat.beq (P.cellsOf f.type) 1 && (match P.underlying f.type with | some (.int .i64) => true | _ => false))
    | none => false
def cellInt : Option Value → Int
  | some (.int _ z) => z
  | _ => 0
theorem open_ints_agg {H : Type} {enc : TypeId × Value → H} {P : Program} {w : World} {base : Nat} {spare : Nat → Bool} {held : Bool} {r : Reach} {b0 : Nat} {t : TypeId} {fs : Array Field} {v : Value} {d : DataW H} {p : List MemPlace}
    (hs : P.underlying t = some (.struct fs)) (hf : intFields P fs = true) (hC : P.cellsOf t = fs.size) (hv : Value.okWide P w r b0 t v) (h : DataW.Trod enc P w base spare held t v d p) :
    ∃ zs : List Int, v = .agg (zs.map (.int .i64)).toArray ∧ zs.length = fs.size := by
  obtain ⟨cs, rfl, hsz⟩ := okWide_struct hs hv
  obtain ⟨fuel, ht⟩ := h
  obtain ⟨xs, n, _, _, hl, hlen, hx⟩ := DataW.trod_struct hs ht
  have hsz : cs.size = fs.size := hsz.trans hC
  have each : ∀ j, j < fs.size → ∃ z : Int, cs.toList[j]? = some (.int .i64 z) := by
    intro j hj
    have hjf : fs[j]? = some fs[j] := Array.getElem?_eq_getElem hj
    have h1 := List.all_eq_true.1 hf j (List.mem_range.2 hj)
    rw [hjf] at h1
    simp only [Bool.and_eq_true] at h1
    obtain ⟨h2, h3, h4⟩ := h1
    have h2 := Nat.eq_of_beq_eq_true h2
    have h3 := Nat.eq_of_beq_eq_true h3
    have hu : P.underlying fs[j].type = some (.int .i64) := by
      split at h4
      · assumption
      · cases h4
    have hxj := hx j fs[j] hjf
    rw [h2, h3] at hxj
    have hjc : j < cs.toList.length := by simpa using (by omega : j < cs.size)
    have hd : (cs.toList.drop j).take 1 = [cs.toList[j]] := by
      rw [List.drop_eq_getElem_cons hjc]; rfl
    have hxl : j < xs.length := by omega
    have hxj : DataW.trod enc P w base spare held n fs[j].type [cs.toList[j]] = some xs[j] := by
      rw [← hd]
      exact hxj.trans (List.getElem?_eq_getElem hxl)
    obtain ⟨z, e, _, _⟩ := DataW.trod_int hu hxj
    injection e with e _
    exact ⟨z, by rw [List.getElem?_eq_getElem hjc, e]⟩
  refine ⟨(List.range fs.size).map fun (j : Nat) => cellInt (cs.toList[j]?), ?_, by simp⟩
  congr 1
  apply Array.toList_inj.1
  apply List.ext_getElem?
  intro j
  by_cases hj : j < fs.size
  · obtain ⟨z, e⟩ := each j hj
    simp [hj] at e ⊢
    simp [e, cellInt]
  · have hc : ¬ j < cs.size := by omega
    simp [hj, hc]
end Go.Vc
