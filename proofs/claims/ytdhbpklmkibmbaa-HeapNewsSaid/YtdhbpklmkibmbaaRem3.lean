/- Layer 11 (remset): Add of a source that is sparse. -/
import Derived.Test.YtdhbpklmkibmbaaRem2
import Derived.Test.YtdhbpklmkibmbaaSlInt
namespace Go.Vc
variable {P : Program} {κ : Type} [DecidableEq κ] {kv : κ → Value} {w w' : World} {b : Nat} {m : List (κ × Value)} {T : Tab}
theorem LookN (hT : T.Ok P) {t tk te : Nat} {z v : Value} (ht : T.d t = .map tk te) (K : KeyOk P tk kv) (hz : ∀ w, (zeroValue te).run P w = .ok z w) (h : MapG kv w b m) (k : κ) {Q : Value → World → Prop} (hv : (getM m k).getD z = v)
    (hk : Q v w) : RunC P (Instr.lookup t (.map (some b)) (kv k) false) w Q := LookC hT ht K hz h k false (by rw [hv]; exact hk)
end Go.Vc
namespace Go.Proofs.Ytdhbpklmkibmbaa
open Go.Vc

/-- What a sparse source's row is. -/
theorem sp_row {w : World} {b m1 m2 m3 : Nat} {n per : Int} {sp : List SpE} {fi : List FiE} {co : List (Int × Int)} (h : SetsG w b m1 m2 m3 n per sp fi co) (k : Int × Int) {l : List Int} (hl : (spGet sp k = none ∧ l = []) ∨ ∃ o, spGet sp k = some o ∧ o.l = l) :
    ∃ a cp, (getM (spM sp) k).getD (.slice none 0 0) = .slice a l.length cp ∧ Own w 0 (.slice a l.length cp) l ∧ (∀ x, (Value.slice a l.length cp).ownBlock = some x ↔ ∃ o, spGet sp k = some o ∧ x = o.g) := by
  rcases hl with ⟨h1, rfl⟩ | ⟨o, h1, rfl⟩
  · refine ⟨none, 0, by rw [(spGet_none h1).1]; rfl, Own.nil _ _, fun x => ⟨(fun e => by cases e), fun ⟨o, ho, _⟩ => by rw [h1] at ho; cases ho⟩⟩
  · obtain ⟨hm, hk, hg⟩ := spGet_some h1
    refine ⟨some ⟨o.g, 0, none⟩, o.cap, by rw [hg]; rfl, h.rows o hm, fun x => ⟨fun e => ⟨o, h1, ?_⟩, fun ⟨o', ho, ex⟩ => ?_⟩⟩
    · have e : some o.g = some x := e
      injection e with e
      exact e.symm
    · rw [h1] at ho
      injection ho with ho
      subst ho
      rw [ex]; rfl
end Go.Proofs.Ytdhbpklmkibmbaa
