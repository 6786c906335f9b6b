/- Layer 7 (region): List, the law's awake. -/
import Derived.Test.YtilhoimokegpjaaRegion3
import Derived.Test.YtilhoimokegpjaaVcL
namespace Go.Proofs.Ytilhoimokegpjaa
open Go.Vc

def idxs (s : Int) (rs : List R) (n : Nat) : List Int := ((List.range n).filter fun (k : Nat) => decide (rs[k]?.map (fun y : R => y.1) = some s)).map fun (k : Nat) => (k : Int)
theorem idxs_succ (s : Int) (rs : List R) (n : Nat) (x : R) (hx : rs[n]? = some x) : idxs s rs (n + 1) = if x.1 = s then idxs s rs n ++ [(n : Int)] else idxs s rs n := by
  unfold idxs
  rw [List.range_succ, List.filter_append, List.map_append]
  by_cases h : x.1 = s
  · simp [hx, h]
  · simp [hx, h]
theorem idxs_le (s : Int) (rs : List R) (n : Nat) : (idxs s rs n).length ≤ n := by
  unfold idxs
  rw [List.length_map]
  exact Nat.le_trans (List.length_filter_le _ _) (by simp)
theorem region_List_nil (s : Int) (w : World) : CallC Pr f_region_Table_List [.pointer none, .int .i64 s] w (fun v w' => v = .slice none 0 0 ∧ Fr No w w') := by
  refine call_sound T_ok fun_region_Table_List rfl (by kernel_rfl) rfl (Kp ?_)
  exact ⟨rfl, Fr.refl _ _⟩
theorem region_List_spec {b r : Nat} {words : Int} {rs : List R} (s : Int) (w : World) (h : IsReg w b r words rs) :
    CallC Pr f_region_Table_List [.pointer (some ⟨b, 0, none⟩), .int .i64 s] w (fun v w' => w'.ownsRow w.heap.size t_int 1 v (idxs s rs rs.length).length (ints (idxs s rs rs.length)) ∧ Fr No w w') := by
  have hlen := h.len
  refine call_sound T_ok fun_region_Table_List rfl (by kernel_rfl) rfl (Kp ?_)
  refine LdC_blk h.tab rfl ?_
  refine LoopC_intro (α := Int × Value) (fun x => [(0, .pointer (some ⟨b, 0, none⟩)), (1, .int .i64 s), (5, x.2), (13, .slice (some ⟨r, 0, none⟩) rs.length rs.length), (14, .int .i64 rs.length), (15, .int .i64 x.1)])
    (fun m x w2 => IsReg w2 b r words rs ∧ Fr No w w2 ∧ 0 ≤ x.1 ∧ x.1 ≤ rs.length ∧ m = (rs.length - x.1).toNat ∧ w2.ownsRow w.heap.size t_int 1 x.2 (idxs s rs x.1.toNat).length (ints (idxs s rs x.1.toNat)))
    (rs.length - 0 : Int).toNat (0, .slice none 0 0) ⟨rfl, rfl, rfl, rfl, rfl, rfl, trivial⟩
    ⟨h, Fr.refl _ _, (show (0 : Int) ≤ 0 by omega), (show (0 : Int) ≤ rs.length by omega), rfl, World.ownsRow_nil _ _ _ _⟩ ?_
  rintro m ⟨i, v⟩ w2 ⟨h2, f2, i0, i1, hm, hO⟩
  have i0 : 0 ≤ i := i0
  have i1 : i ≤ rs.length := i1
  have hm : m = (rs.length - i).toNat := hm
  have hO : w2.ownsRow w.heap.size t_int 1 v (idxs s rs i.toNat).length (ints (idxs s rs i.toNat)) := hO
  refine Br_dec (fun g0 => ?_) (fun g0 => ?_)
  · have g0 : i < (rs.length : Int) := g0
    have ei : IntKind.i64.wrap (i + 1) = i + 1 := wrap_i64 (by omega) (by omega)
    refine Sd_intro ⟨i0, g0⟩ ?_
    have hi : i.toNat < rs.length := by omega
    have hx := List.getElem?_eq_getElem hi
    generalize rs[i.toNat] = x at hx
    refine LdN_idx (vs := [.int .i64 x.1, .int .i32 x.2.1, .int .i32 x.2.2]) h2.row (by rw [Nat.zero_add, Nat.mul_comm]; exact flat_take hx) rfl ?_
    refine NewC_blk (fun p w3 hp h3 f3 _ => ?_)
    refine StN_blk h3 rfl (Nat.le_refl 3) (fun w4 h4 f4 _ => ?_)
    refine LdC_blk h4 (v := .int .i64 x.1) rfl ?_
    have f34 : Fr No w2 w4 := f3.new f4 (fun _ _ e => e) (fun k e => by omega)
    have f24 := f2.no f34
    have hs := idxs_succ s rs i.toNat x hx
    have hle := idxs_le s rs i.toNat
    refine Br_dec (fun g1 => ?_) (fun g1 => ?_)
    · rw [if_pos g1] at hs
      refine NewC_blk (fun p5 w5 hp5 h5 f5 _ => ?_)
      have f45 := f34.no f5
      refine ApC T_ok (e := t_int) rfl rfl rfl (by decide) (own_keep hO f45 (fun _ _ => id)) (f2.no f45).size h5 (news := [.int .i64 i]) rfl rfl rfl (by omega) (show _ * 8 ≤ 140737488355328 by omega) (fun v6 w6 o6 f6 => ?_)
      have ge : ∀ j, v.ownBlock = some j → w.heap.size ≤ j := fun j hj => own_ge hO j hj
      have f26 : Fr (fun j => v.ownBlock = some j) w2 w6 := f45.noL f6
      have hne : ¬ v.ownBlock = some b ∧ ¬ v.ownBlock = some r := ⟨fun e => by have := ge _ e; have := h.tab.lt; omega, fun e => by have := ge _ e; have := h.row.lt; omega⟩
      refine ⟨(rs.length - (i + 1)).toNat, _, by omega, ?_, (i + 1, v6), rfl, h2.keep f26 hne.1 hne.2, f2.new f26 (fun _ _ e => e) (fun j e => ge j e), (show 0 ≤ i + 1 by omega), (show i + 1 ≤ rs.length by omega), rfl, ?_⟩
      · exact ⟨rfl, rfl, rfl, rfl, rfl, look_int rfl ei, trivial⟩
      · show w6.ownsRow w.heap.size t_int 1 v6 (idxs s rs (i + 1).toNat).length (ints (idxs s rs (i + 1).toNat))
        rw [show (i + 1).toNat = i.toNat + 1 by omega, hs, List.length_append]
        have : ints (idxs s rs i.toNat ++ [((i.toNat : Nat) : Int)]) = ints (idxs s rs i.toNat) ++ [.int .i64 i] := by rw [show ((i.toNat : Nat) : Int) = i by omega]; simp [ints]
        rw [this]; exact o6
    · rw [if_neg g1] at hs
      refine ⟨(rs.length - (i + 1)).toNat, _, by omega, ?_, (i + 1, v), rfl, h2.keep f34 id id, f24, (show 0 ≤ i + 1 by omega), (show i + 1 ≤ rs.length by omega), rfl, ?_⟩
      · exact ⟨rfl, rfl, rfl, rfl, rfl, look_int rfl ei, trivial⟩
      · show w4.ownsRow w.heap.size t_int 1 v (idxs s rs (i + 1).toNat).length (ints (idxs s rs (i + 1).toNat))
        rw [show (i + 1).toNat = i.toNat + 1 by omega, hs]
        exact own_keep hO f34 (fun _ _ => id)
  · have g0 : ¬ i < (rs.length : Int) := g0
    have : i.toNat = rs.length := by omega
    rw [this] at hO
    exact ⟨hO, f2⟩
theorem awake7_spec (w : World) : CallC Pr f_gleanerlaw07_awake [] w (fun v w' => v = .bool true ∧ Fr No w w') := by
  refine call_sound T_ok fun_gleanerlaw07_awake rfl (by kernel_rfl) rfl (Kp ?_)
  refine CallC_intro (small7_spec w) (fun v w1 ⟨hv, f1⟩ => ?_)
  subst hv
  refine CallC_intro (region_New_spec w1) (fun v w2 ⟨b, r, hv, h2, f2, hb, hr⟩ => ?_)
  subst hv
  have f2 := f1.no f2
  have hr : w.heap.size ≤ r := by have := f1.size; omega
  refine CallC_intro (Claim_spec 1 w2 h2 (by omega)) (fun v w3 ⟨rs3, c3, h3, f3⟩ => ?_)
  have e3 : rs3 = [(1, 0, 0), (0, 0, 0), (0, 0, 0), (0, 0, 0)] ∧ v = .tuple #[.int .i64 0, .int .i64 0] := by
    rcases c3 with ⟨k, x, hx, x0, hm, e, hv⟩ | ⟨hn, _, _⟩
    · cases k with
      | zero => simp only [zero4, List.getElem?_cons_zero, Option.some.injEq] at hx; subst hx; exact ⟨e, hv⟩
      | succ k => exact absurd rfl (hm 0 (0, 0, 0) (by omega) rfl)
    · exact absurd rfl (hn 0 (0, 0, 0) rfl)
  obtain ⟨rfl, rfl⟩ := e3
  refine CallC_intro (Claim_spec 3 w3 h3 (by omega)) (fun v w4 ⟨rs4, c4, h4, f4⟩ => ?_)
  have e4 : rs4 = [(1, 0, 0), (3, 0, 0), (0, 0, 0), (0, 0, 0)] ∧ v = .tuple #[.int .i64 1, .int .i64 0] := by
    rcases c4 with ⟨k, x, hx, x0, hm, e, hv⟩ | ⟨hn, _, _⟩
    · cases k with
      | zero => simp only [List.getElem?_cons_zero, Option.some.injEq] at hx; subst hx; exact absurd x0 (by decide)
      | succ k => cases k with
        | zero => simp only [List.getElem?_cons_succ, List.getElem?_cons_zero, Option.some.injEq] at hx; subst hx; exact ⟨e, hv⟩
        | succ k => exact absurd rfl (hm 1 (0, 0, 0) (by omega) rfl)
    · exact absurd rfl (hn 1 (0, 0, 0) rfl)
  obtain ⟨rfl, rfl⟩ := e4
  refine CallC_intro (Bump_spec 1 60 w4 h4 (by omega) (x := (3, 0, 0)) rfl (by omega) (by decide) (by decide)) (fun v w5 ⟨hv, h5, f5⟩ => ?_)
  subst hv
  have h5 : IsReg w5 b r 64 [(1, 0, 0), (3, 60, 0), (0, 0, 0), (0, 0, 0)] := h5
  refine CallC_intro (Run_spec 2 100 w5 h5 (by omega) (by omega) (by decide) (by omega) (by omega)) (fun v w6 h6 => ?_)
  have hf2 : freeAt [(1, 0, 0), (3, 60, 0), (0, 0, 0), (0, 0, 0)] 2 2 := ⟨by omega, by decide, fun j x a1 a2 hx => by
    have : j = 2 ∨ j = 3 := by omega
    rcases this with rfl | rfl
    · injection hx with hx; subst hx; rfl
    · injection hx with hx; subst hx; rfl⟩
  rcases h6 with ⟨k, rs6, hk, hmin, hh, hv, h6, f6⟩ | ⟨hn, _⟩
  · have ek : k = 2 := by
      have u0 := hk.1
      have u1 : k + 2 ≤ 4 := hk.2.1
      by_cases e : 2 < k
      · omega
      · by_cases e1 : k = 2
        · exact e1
        · exfalso
          have := hk.2.2 1 (3, 60, 0) (by omega) (by omega) rfl
          exact absurd this (by decide)
    subst ek
    subst hv
    have h63 : rs6[3]? = some (5, 36, 0) := hh.2 3 (0, 0, 0) rfl
    refine CallC_intro (State_spec 3 w6 h6 (by omega) (x := (5, 36, 0)) h63) (fun v w7 ⟨hv, f7⟩ => ?_)
    subst hv
    refine CallC_intro (Top_spec 3 w7 (h6.keep f7 id id) (by omega) (x := (5, 36, 0)) h63) (fun v w8 ⟨hv, f8⟩ => ?_)
    subst hv
    refine ⟨rfl, ?_⟩
    have f36 : Fr (· = r) w2 w6 := ((f3.same f4).same f5).same f6
    exact ((f2.new f36 (fun _ _ e => e) (fun k e => by omega)).no f7).no f8
  · exact absurd hf2 (hn 2)
end Go.Proofs.Ytilhoimokegpjaa
