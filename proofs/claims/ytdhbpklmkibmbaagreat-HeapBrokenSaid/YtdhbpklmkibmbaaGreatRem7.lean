/- Layer 11 (remset): all the cards of a home. -/
import Derived.Test.YtdhbpklmkibmbaaGreatRem6
namespace Go.Proofs.YtdhbpklmkibmbaaGreat
open Go.Vc

def spF (hm : Int) (e : SpE) : List Int := if e.k.1 = hm then e.l else []
def fiF (hm per : Int) (e : FiE) : List Int := if e.k.1 = hm then (elems e.S per.toNat).map fun c => e.k.2 * per + c else []
def coF (hm per : Int) (k : Int × Int) : List Int := if k.1 = hm then (List.range per.toNat).map fun (c : Nat) => k.2 * per + (c : Int) else []
def cardsL (hm per : Int) (sp : List SpE) (fi : List FiE) (co : List (Int × Int)) : List Int := sp.flatMap (spF hm) ++ fi.flatMap (fiF hm per) ++ co.flatMap (coF hm per)
theorem elems_mem {S : Nat → Bool} : ∀ {m : Nat} {c : Int}, c ∈ elems S m → 0 ≤ c ∧ c < m ∧ S c.toNat = true := by
  intro m
  induction m with
  | zero => intro c h; cases h
  | succ m ih =>
    intro c h
    have h : c ∈ elems S m ++ if S m then [(m : Int)] else [] := h
    rcases List.mem_append.1 h with h | h
    · obtain ⟨a, b, d⟩ := ih h
      exact ⟨a, by omega, d⟩
    · cases e : S m with
      | false => rw [e] at h; simp at h
      | true =>
        rw [e] at h
        have h : c = (m : Int) := by simpa using h
        subst h
        exact ⟨by omega, by omega, by simpa using e⟩
/-- One of a list whose keys differ, and the rest. -/
theorem flat_del {α κ : Type} [DecidableEq κ] (key : α → κ) (F : α → List Int) {l : List α} {x : α} (nd : (l.map key).Nodup) (hx : x ∈ l) : (l.flatMap F).Perm (F x ++ (l.filter fun y => !decide (key y = key x)).flatMap F) := by
  induction l with
  | nil => cases hx
  | cons y l ih =>
    rw [List.map_cons, List.nodup_cons] at nd
    rcases List.mem_cons.1 hx with e | h
    · subst e
      have : (x :: l).filter (fun y => !decide (key y = key x)) = l := by
        rw [List.filter_cons, if_neg (by simp), List.filter_eq_self]
        intro z hz
        simp only [Bool.not_eq_true', decide_eq_false_iff_not]
        intro e2
        exact nd.1 (List.mem_map.2 ⟨z, hz, e2⟩)
      rw [this, List.flatMap_cons]
    · have hne : key y ≠ key x := fun e => nd.1 (List.mem_map.2 ⟨x, h, e.symm⟩)
      rw [List.filter_cons, if_pos (by simp [hne]), List.flatMap_cons, List.flatMap_cons]
      refine ((ih nd.2 h).append_left (F y)).trans ?_
      rw [← List.append_assoc, ← List.append_assoc]
      exact List.perm_append_comm.append_right _
theorem iter_nodup {κ : Type} {kv : κ → Value} {w : World} {b r : Nat} {m left : List (κ × Value)} {cur : Option (κ × Value)} (h : IterG kv w b r m left cur) : (left.map (·.1)).Nodup := by
  obtain ⟨_, es, clock, since, seen, c0, _, _, h3, _, _, _, _, _, _, h10, _⟩ := h
  exact h3.sublist (h10.map _)
theorem iter_sub {κ : Type} {kv : κ → Value} {w : World} {b r : Nat} {m left : List (κ × Value)} {cur : Option (κ × Value)} (h : IterG kv w b r m left cur) : left.Sublist m := by
  obtain ⟨_, es, clock, since, seen, c0, _, _, h3, _, _, _, _, _, _, h10, _⟩ := h
  exact h10
theorem len_del {l : List ((Int × Int) × Value)} {x : (Int × Int) × Value} (hx : x ∈ l) : (delM l x.1).length < l.length := by
  unfold delM
  exact List.length_filter_lt_length_iff_exists.2 ⟨x, hx, by simp⟩
def delFi (fi : List FiE) (k : Int × Int) : List FiE := fi.filter fun e => !decide (e.k = k)
def delCo (co : List (Int × Int)) (k : Int × Int) : List (Int × Int) := co.filter fun e => !decide (e = k)
theorem del_fiM (fi : List FiE) (k : Int × Int) : fiM (delFi fi k) = delM (fiM fi) k := by
  unfold fiM delFi delM
  rw [List.filter_map]; rfl
theorem del_coM (co : List (Int × Int)) (k : Int × Int) : coM (delCo co k) = delM (coM co) k := by
  unfold coM delCo delM
  rw [List.filter_map]; rfl
theorem spM_keys (sp : List SpE) : (spM sp).map (·.1) = sp.map (·.k) := by unfold spM; rw [List.map_map]; rfl
theorem fiM_keys (fi : List FiE) : (fiM fi).map (·.1) = fi.map (·.k) := by unfold fiM; rw [List.map_map]; rfl
theorem coM_keys (co : List (Int × Int)) : (coM co).map (·.1) = co := by unfold coM; rw [List.map_map]; show co.map id = co; simp
theorem ints_one (x : Int) : [Value.int .i64 x] = ints [x] := rfl
theorem own_snoc {w : World} {base : Nat} {v : Value} {l r : List Int} (h : w.ownsRow base t_int 1 v (l.length + r.length) (ints l ++ ints r)) : Own w base v (l ++ r) := by
  unfold Own
  rw [ints_append, List.length_append]; exact h

end Go.Proofs.YtdhbpklmkibmbaaGreat
