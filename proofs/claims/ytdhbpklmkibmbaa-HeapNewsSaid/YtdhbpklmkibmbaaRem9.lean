/- Layer 11 (remset): the closures of refine, the sort and the greatest. -/
import Derived.Test.YtdhbpklmkibmbaaRem8
import Derived.Test.YtdhbpklmkibmbaaExW
namespace Go.Proofs.Ytdhbpklmkibmbaa
open Go.Vc Go.Sort Go.Shelf

/-- Pairs whose sources are small. -/
abbrev BP := {p : Int × Int // 0 ≤ p.2 ∧ p.2 ≤ 65536}
instance : Inhabited BP := ⟨⟨(0, 0), by decide⟩⟩
def cmpB (a b : BP) : Int := a.1.2 - b.1.2
def OwnP (w : World) (base : Nat) (v : Value) (l : List (Int × Int)) : Prop := w.ownsRow base t_remset_pair 2 v l.length (pairsL l)
theorem pairsL_len (l : List (Int × Int)) : (pairsL l).length = l.length * 2 := by
  induction l with
  | nil => rfl
  | cons x l ih => show (pairL x ++ pairsL l).length = _; rw [List.length_append, ih]; simp [pairL]; omega
theorem flatB (l : List BP) : (flatK (fun x : BP => pairL x.1) 2 l.toArray).toList = pairsL (l.map (·.1)) := by
  rw [flatK_list _ 2 (fun _ => rfl) l.toArray]
  show l.flatMap _ = (l.map (·.1)).flatMap pairL
  rw [List.flatMap_map]
/-- How many cards a fine source has. -/
def szF (per : Int) (fi : List FiE) (p : Int × Int) : Int := match fi.find? fun e => decide (e.k = p) with | some e => ((cnt (within e.S 0 per) per.toNat : Nat) : Int) | none => 0
theorem szF_le {per : Int} {fi : List FiE} {p : Int × Int} (hp : 0 ≤ per) : 0 ≤ szF per fi p ∧ szF per fi p ≤ per := by
  unfold szF
  split
  · have := cnt_le (within (by assumption : FiE).S 0 per) per.toNat
    omega
  · omega
theorem szF_eq {per : Int} {fi : List FiE} {e : FiE} (nd : (fi.map (·.k)).Nodup) (h : e ∈ fi) : szF per fi e.k = ((cnt (within e.S 0 per) per.toNat : Nat) : Int) := by
  have : fi.find? (fun x => decide (x.k = e.k)) = some e := by
    induction fi with
    | nil => cases h
    | cons y fi ih =>
      rw [List.map_cons, List.nodup_cons] at nd
      by_cases c : y.k = e.k
      · have hye : y = e := by
          rcases List.mem_cons.1 h with h | h
          · exact h.symm
          · exact absurd (List.mem_map.2 ⟨e, h, c.symm⟩) nd.1
        rw [List.find?_cons_of_pos (by simp [c]), hye]
      · rw [List.find?_cons_of_neg (by simp [c])]
        rcases List.mem_cons.1 h with h | h
        · exact absurd (by rw [h]) c
        · exact ih nd.2 h
  unfold szF
  rw [this]
/-- The first of the greatest. -/
def maxP {α : Type} (sz : α → Int) (x : α) (l : List α) : α := l.foldl (fun m y => if sz y - sz m > 0 then y else m) x
theorem maxP_mem {α : Type} (sz : α → Int) : ∀ (l : List α) (x : α), maxP sz x l = x ∨ maxP sz x l ∈ l := by
  intro l
  induction l with
  | nil => intro x; exact .inl rfl
  | cons y l ih =>
    intro x
    unfold maxP
    rw [List.foldl_cons]
    rcases ih (if sz y - sz x > 0 then y else x) with h | h
    · unfold maxP at h
      rw [h]
      split
      · right; simp
      · left; rfl
    · right; exact List.mem_cons_of_mem _ h
theorem maxP_snoc {α : Type} (sz : α → Int) (x y : α) (l : List α) : maxP sz x (l ++ [y]) = if sz y - sz (maxP sz x l) > 0 then y else maxP sz x l := by
  unfold maxP
  rw [List.foldl_append]; rfl
theorem pairsL_get : ∀ {l : List (Int × Int)} {i : Nat} {z : Int × Int}, l[i]? = some z → ((pairsL l).drop (i * 2)).take 2 = pairL z := by
  intro l
  induction l with
  | nil => intro i z h; cases h
  | cons x l ih =>
    intro i z h
    cases i with
    | zero => simp only [List.getElem?_cons_zero, Option.some.injEq] at h; subst h; rfl
    | succ i =>
      have := ih (i := i) (z := z) (by simpa using h)
      show ((pairL x ++ pairsL l).drop ((i + 1) * 2)).take 2 = _
      rw [show (i + 1) * 2 = (pairL x).length + i * 2 by simp [pairL]; omega, ← List.drop_drop, List.drop_left]
      exact this
theorem cur_get {l : List (Int × Int)} {cur : List Value} (h : cur.take (l.length * 2) = pairsL l) {i : Nat} {z : Int × Int} (hz : l[i]? = some z) : (cur.drop (0 + i * 2)).take 2 = pairL z := by
  have hi := (List.getElem?_eq_some_iff.1 hz).1
  rw [← pairsL_get hz, ← h, Nat.zero_add, List.drop_take, List.take_take, show min 2 (l.length * 2 - i * 2) = 2 by omega]
end Go.Proofs.Ytdhbpklmkibmbaa
