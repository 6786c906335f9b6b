/- Keys of maps that are whole numbers; rows of words. -/
import Derived.Test.YtdhbpklmkibmbaaGreatMapS
import Derived.Test.YtdhbpklmkibmbaaGreatSortW
import Derived.Test.YtdhbpklmkibmbaaGreatArena
namespace Go.Proofs.YtdhbpklmkibmbaaGreat
open Go.Vc

def kvI (k : IntKind) (n : Int) : Value := .int k n
theorem kvI_inj {k : IntKind} (a b : Int) (h : kvI k a = kvI k b) : a = b := by injection h
theorem findNow_int {k : IntKind} (x : Int) : ∀ (es : List MapEntry) (m : List (Int × Value)) (i : Nat), es.map (·.key) = m.map (fun y => kvI k y.1) →
    Instr.findNow (.int k) (kvI k x) es i = some ((idxM m x).bind fun j => es[j]?.map fun e => (i + j, e.val)) := by
  intro es
  induction es with
  | nil =>
    intro m i h
    cases m with
    | nil => rfl
    | cons y m => cases h
  | cons e es ih =>
    intro m i h
    cases m with
    | nil => cases h
    | cons y m =>
      rw [List.map_cons, List.map_cons] at h
      injection h with h1 h2
      unfold Instr.findNow
      rw [h1]
      have hs : Instr.sameNow (.int k) (kvI k x) (kvI k y.1) = some (x == y.1) := by simp [Instr.sameNow, kvI]
      rw [hs]
      by_cases c : x = y.1
      · have : idxM (y :: m) x = some 0 := by unfold idxM; simp [c]
        rw [this]
        simp [c]
      · have hx : (x == y.1) = false := by simpa using c
        rw [hx]
        dsimp only
        rw [ih m (i + 1) h2]
        have hi : idxM (y :: m) x = (idxM m x).map (· + 1) := by
          show (if y.1 = x then some 0 else (idxM m x).map (· + 1)) = _
          rw [if_neg (fun e => c e.symm)]
        rw [hi]
        congr 1
        cases idxM m x with
        | none => rfl
        | some j =>
          show (es[j]?).map (fun e => (i + 1 + j, e.val)) = ((e :: es)[j + 1]?).map fun e => (i + (j + 1), e.val)
          rw [List.getElem?_cons_succ, show i + 1 + j = i + (j + 1) by omega]
theorem int_key {P : Program} {t : TypeId} {k : IntKind} (hu : P.underlying t = some (.int k)) : KeyOk P t (kvI k) where
  chk e x w := chk_leaf hu rfl e 9999 (kvI k x) w
  fnd x es m w hes := by
    simp only [Instr.findKey, Sem.run_bind, run_underlying hu, Result.andThen_ok, findNow_int x es m 0 hes]
    simp
  bits x := by simp [kvI, Instr.sameBits]
/-- A row of words of one's own. -/
def OwnU (w : World) (base te : Nat) (v : Value) (l : List Int) : Prop := w.ownsRow base te 1 v l.length (u64i l)
theorem OwnU.nil (w : World) (base te : Nat) : OwnU w base te (.slice none 0 0) [] := World.ownsRow_nil _ _ _ _
theorem u64i_app (a b : List Int) : u64i (a ++ b) = u64i a ++ u64i b := by simp [u64i]
theorem u64i_one (l : List Int) : (u64i l).all Value.oneCell' = true := by
  induction l with
  | nil => rfl
  | cons x l ih => show (_ && _) = true; exact ih
theorem ownU_snoc {w : World} {base te : Nat} {v : Value} {l r : List Int} (h : w.ownsRow base te 1 v (l.length + r.length) (u64i l ++ u64i r)) : OwnU w base te v (l ++ r) := by
  unfold OwnU
  rw [u64i_app, List.length_append]; exact h
theorem OwnU.lt {w : World} {base te : Nat} {v : Value} {l : List Int} (h : OwnU w base te v l) (k : Nat) (hk : v.ownBlock = some k) : base ≤ k ∧ k < w.heap.size := World.ownsRow.lt h k hk
theorem OwnU.keep {w w' : World} {base te : Nat} {v : Value} {l : List Int} {F : Nat → Prop} (h : OwnU w base te v l) (f : Fr F w w') (hF : ∀ k, v.ownBlock = some k → ¬ F k) : OwnU w' base te v l := own_keepV h f hF
/-- Words of one's own, read. -/
theorem OwnU.cell {w : World} {base te : Nat} {v : Value} {l : List Int} (h : OwnU w base te v l) : ∃ a c, v = .slice a l.length c ∧ ∀ (i : Nat) (z : Int), l[i]? = some z → ∃ x, a = some x ∧ w.cell? (x.add i) = some (.int .u64 z) := by
  rcases own_cases h with ⟨rfl, h0, _⟩ | ⟨g, cap, cur, rfl, _, hb, ht, _⟩
  · exact ⟨none, 0, by rw [h0], fun i z hi => by rw [List.eq_nil_of_length_eq_zero h0] at hi; cases hi⟩
  · refine ⟨_, _, rfl, fun i z hi => ⟨_, rfl, ?_⟩⟩
    rw [add_of]
    refine hb.cell ?_
    have := u64i_get? hi
    rw [← ht, List.getElem?_take] at this
    split at this
    · rw [Nat.zero_add]; exact this
    · cases this
theorem CloneU_spec {base : Nat} (v : Value) (l : List Int) (w : World) (h : OwnU w base t_api_Ref v l) (hl : l.length ≤ 1000000) :
    CallC Pr f_slices_Clone___api_Ref_api_Ref_ [v] w (fun r w' => OwnU w' w.heap.size t_api_Ref r l ∧ Fr No w w') := by
  obtain ⟨a, c, rfl, hc⟩ := h.cell
  cases a with
  | none =>
    have : l = [] := by
      cases l with
      | nil => rfl
      | cons x l => obtain ⟨y, hy, _⟩ := hc 0 x rfl; cases hy
    subst this
    refine call_sound T_ok fun_slices_Clone___api_Ref_api_Ref_ rfl (by kernel_rfl) rfl (Kp ?_)
    exact ⟨OwnU.nil _ _ _, Fr.refl _ _⟩
  | some x =>
    refine call_sound T_ok fun_slices_Clone___api_Ref_api_Ref_ rfl (by kernel_rfl) rfl (Kp ?_)
    refine NewC_blk (fun b w1 hb h1 f1 s1 => ?_)
    refine ApA T_ok (base := w.heap.size) (n := 0) (xs := []) (news := u64i l) rfl rfl rfl (by decide) (own_empty h1 (by omega)) (by omega) (fun j u hj => ?_) (by rw [u64i_len]; exact (Nat.mul_one _).symm) (u64i_one l) (by omega) (show (0 + l.length) * 8 ≤ _ by omega) (fun r w2 own2 f2 => ?_)
    · unfold u64i at hj
      rw [List.getElem?_map] at hj
      cases hz : l[j]? with
      | none => rw [hz] at hj; cases hj
      | some z =>
        rw [hz] at hj
        injection hj with hj
        subst hj
        obtain ⟨x', hx, h1'⟩ := hc j z hz
        injection hx with hx
        subst hx
        have hb := World.block_lt_of_cell? w (x.add j) h1'
        unfold World.cell? at h1' ⊢
        rw [f1.blk _ hb id]; exact h1'
    · refine ⟨?_, f1.new f2 (fun _ _ e => e) (fun k e => ?_)⟩
      · have := own2
        rw [Nat.zero_add, List.nil_append] at this
        exact this
      · have e : some b = some k := e
        injection e with e
        omega
theorem roots_List_spec {b : Nat} {v : Value} {bound : Int} {l : List Int} (w : World) (h : IsStack w b v bound l) : CallC Pr f_roots_Stack_List [.pointer (some ⟨b, 0, none⟩)] w (fun r w' => OwnU w' w.heap.size t_api_Ref r l ∧ Fr No w w') := by
  obtain ⟨a, c, rfl⟩ := h.row
  have b0 := h.b0
  have n0 := h.n0
  refine call_sound T_ok fun_roots_Stack_List rfl (by kernel_rfl) rfl (Kp ?_)
  refine LdC_blk (h.tab) rfl ?_
  exact CloneU_spec (.slice a l.length c) l w h.own (by omega)
end Go.Proofs.YtdhbpklmkibmbaaGreat
/- Rows of words, compared. -/
namespace Go.Proofs.YtdhbpklmkibmbaaGreat
open Go.Vc

def UC (w : World) (v : Value) (l : List Int) : Prop := ∃ a c, v = .slice a l.length c ∧ ∀ (i : Nat) (z : Int), l[i]? = some z → ∃ x, a = some x ∧ w.cell? (x.add i) = some (.int .u64 z)
theorem UC.keep {w w' : World} {v : Value} {l : List Int} (h : UC w v l) (f : Fr No w w') : UC w' v l := by
  obtain ⟨a, c, e, hc⟩ := h
  refine ⟨a, c, e, fun i z hi => ?_⟩
  obtain ⟨x, hx, h1⟩ := hc i z hi
  refine ⟨x, hx, ?_⟩
  have hb := World.block_lt_of_cell? w (x.add i) h1
  unfold World.cell? at h1 ⊢
  rw [f.blk _ hb id]; exact h1
theorem UC.at {w : World} {a : Option Addr} {n c : Nat} {l : List Int} (h : UC w (.slice a n c) l) {i : Nat} (hi : i < l.length) : ∃ x, a = some x ∧ w.cell? (x.add i) = some (.int .u64 l[i]) := by
  obtain ⟨a', c', he, h⟩ := h
  injection he with e1 e2 e3
  subst e1
  exact h i _ (List.getElem?_eq_getElem hi)
theorem OwnU.uc {w : World} {base te : Nat} {v : Value} {l : List Int} (h : OwnU w base te v l) : UC w v l := h.cell
theorem UC.blk {w : World} {b te : Nat} {l : List Int} {n c : Nat} (h : Blk w b te (u64i l)) (hn : n = l.length) : UC w (.slice (some ⟨b, 0, none⟩) n c) l := by
  subst hn
  refine ⟨_, _, rfl, fun i z hi => ⟨_, rfl, ?_⟩⟩
  rw [add_of]
  refine h.cell ?_
  rw [Nat.zero_add]; exact u64i_get? hi
theorem UC.nil {w : World} : UC w (.slice none 0 0) [] := ⟨none, 0, rfl, fun i z hi => by cases hi⟩
theorem SameU_spec (v1 v2 : Value) (l1 l2 : List Int) (w : World) (h1 : UC w v1 l1) (h2 : UC w v2 l2) (hb : (l1.length : Int) ≤ 4611686018427387904) :
    CallC Pr f_gleanerref13_Same [v1, v2] w (fun v w' => v = .bool (decide (l1 = l2)) ∧ Fr No w w') := by
  obtain ⟨a1, c1, rfl, _⟩ := id h1
  obtain ⟨a2, c2, rfl, _⟩ := id h2
  refine call_sound T_ok fun_gleanerref13_Same rfl (by kernel_rfl) rfl (Kp ?_)
  refine Br_ndec (fun g => ?_) (fun g => ?_)
  · have g : ¬ (l1.length : Int) = (l2.length : Int) := g
    refine ⟨?_, Fr.refl _ _⟩
    rw [decide_eq_false (fun e => g (by rw [e]))]; rfl
  · have g : (l1.length : Int) = (l2.length : Int) := g
    have gl : l1.length = l2.length := by omega
    refine LoopC_intro (α := Int) (fun k => [(0, .slice a1 l1.length c1), (1, .slice a2 l2.length c2), (5, .int .i64 k)])
      (fun m k w2 => Fr No w w2 ∧ 0 ≤ k ∧ k ≤ l1.length ∧ (∀ i : Nat, (i : Int) < k → l1[i]? = l2[i]?) ∧ m = (l1.length - k).toNat)
      (l1.length - 0 : Int).toNat 0 ⟨rfl, rfl, rfl, trivial⟩ ⟨Fr.refl _ _, Int.le_refl _, (show (0 : Int) ≤ l1.length by omega), fun i hi => by have hi : (i : Int) < 0 := hi; omega, rfl⟩ (fun m k w2 hJ => Kp ?_)
    obtain ⟨f2, k0, k1, hk, hm⟩ := hJ
    have k0 : 0 ≤ k := k0
    have k1 : k ≤ l1.length := k1
    have hk : ∀ i : Nat, (i : Int) < k → l1[i]? = l2[i]? := hk
    refine Br_dec (fun g0 => ?_) (fun g0 => ?_)
    · have g0 : k < (l1.length : Int) := g0
      have hi1 : k.toNat < l1.length := by omega
      have hi2 : k.toNat < l2.length := by omega
      obtain ⟨x1, rfl, hc1⟩ := (h1.keep f2).at hi1
      obtain ⟨x2, rfl, hc2⟩ := (h2.keep f2).at hi2
      refine AnyC_lex T_ok mixed (by kernel_rfl) (by kernel_rfl) (Kp ?_)
      refine Sd_intro (show 0 ≤ k ∧ k < (l1.length : Int) by omega) ?_
      refine LdS_old (v := .int .u64 l1[k.toNat]) (by rw [Nat.mul_one]; exact hc1) ?_
      refine Sd_intro (show 0 ≤ k ∧ k < (l2.length : Int) by omega) ?_
      refine LdS_old (v := .int .u64 l2[k.toNat]) (by rw [Nat.mul_one]; exact hc2) ?_
      refine Br_ndec (fun g1 => ?_) (fun g1 => ?_)
      · have g1 : ¬ l1[k.toNat] = l2[k.toNat] := g1
        refine ⟨?_, f2.drew'⟩
        rw [decide_eq_false (fun e => g1 (by simp [e]))]; rfl
      · have g1 : l1[k.toNat] = l2[k.toNat] := g1
        refine ⟨(l1.length - (k + 1)).toNat, _, by omega, ?_, k + 1, rfl, f2.drew', (show 0 ≤ k + 1 by omega), (show k + 1 ≤ (l1.length : Int) by omega), fun i hi => ?_, rfl⟩
        · exact ⟨rfl, rfl, look_int rfl (wrap_i64 (by omega) (by omega)), trivial⟩
        · have hi : (i : Int) < k + 1 := hi
          by_cases h : (i : Int) < k
          · exact hk i h
          · have : i = k.toNat := by omega
            subst this
            rw [List.getElem?_eq_getElem hi1, List.getElem?_eq_getElem hi2, g1]
    · have g0 : ¬ k < (l1.length : Int) := g0
      refine ⟨?_, f2⟩
      have : l1 = l2 := List.ext_getElem? fun i => by
        by_cases h : (i : Int) < k
        · exact hk i h
        · rw [List.getElem?_eq_none (by omega), List.getElem?_eq_none (by omega)]
      rw [decide_eq_true this]; rfl
end Go.Proofs.YtdhbpklmkibmbaaGreat
