/- Layer 7 (region): RegionApart. -/
import Derived.Test.YtilhoimokegpjaaRegion4
namespace Go.Proofs.Ytilhoimokegpjaa
open Go.Vc

def bools (l : List Bool) : List Value := l.map .bool
theorem bools_get? {l : List Bool} {k : Nat} {x : Bool} (h : l[k]? = some x) : (bools l)[k]? = some (.bool x) := by simp [bools, h]
theorem bools_set (l : List Bool) (k : Nat) (v : Bool) : (bools l).set k (.bool v) = bools (l.set k v) := by simp [bools, List.map_set]
structure Apart (rs : List R) (r u : Int) (bl : List Bool) : Prop where
  n4 : rs.length = 4
  n256 : bl.length = 256
  r0 : 0 ≤ r
  cur : rs[r.toNat]? = some (2, u, 0)
  u0 : 0 ≤ u
  u1 : u ≤ 64
  rest : ∀ k : Nat, 64 * r + u ≤ k → (k : Int) < 64 * r + 64 → bl[k]? = some false
  free : ∀ (j : Nat) (x : R), rs[j]? = some x → x.1 = 0 → x = (0, 0, 0) ∧ ∀ k : Nat, 64 * j ≤ k → k < 64 * j + 64 → bl[k]? = some false
theorem Apart.r3 {rs : List R} {r u : Int} {bl : List Bool} (h : Apart rs r u bl) : r < 4 := by
  have := (List.getElem?_eq_some_iff.1 h.cur).1
  have := h.n4
  have := h.r0
  omega
theorem Apart.claim {rs : List R} {r u : Int} {bl : List Bool} (h : Apart rs r u bl) {k : Nat} {x : R} (hx : rs[k]? = some x) (x0 : x.1 = 0) : Apart (rs.set k (2, x.2)) k 0 bl := by
  have hk := (List.getElem?_eq_some_iff.1 hx).1
  obtain ⟨rfl, hf⟩ := h.free k x hx x0
  refine ⟨by rw [List.length_set]; exact h.n4, h.n256, by omega, ?_, by omega, by omega, fun j a1 a2 => hf j (by omega) (by omega), fun j y hy y0 => ?_⟩
  · rw [show ((k : Int)).toNat = k by omega, List.getElem?_set_self hk]
  · by_cases e : k = j
    · subst e
      rw [List.getElem?_set_self hk] at hy
      injection hy with hy; subst hy; exact absurd y0 (by show ¬ (2 : Int) = 0; omega)
    · rw [List.getElem?_set_ne e] at hy
      exact h.free j y hy y0
theorem Apart.bump {rs : List R} {r u n : Int} {bl bl' : List Bool} (h : Apart rs r u bl) (hn : 1 ≤ n) (hu : u + n ≤ 64) (hl : bl'.length = bl.length)
    (hb : ∀ k : Nat, bl'[k]? = if r * 64 + u ≤ (k : Int) ∧ (k : Int) < r * 64 + u + n then some true else bl[k]?) : Apart (rs.set r.toNat (2, u + n, 0)) r (u + n) bl' := by
  have hk := (List.getElem?_eq_some_iff.1 h.cur).1
  have r0 := h.r0
  have u0 := h.u0
  refine ⟨by rw [List.length_set]; exact h.n4, hl.trans h.n256, h.r0, ?_, by omega, by omega, fun j a1 a2 => ?_, fun j y hy y0 => ?_⟩
  · rw [List.getElem?_set_self hk]
  · rw [hb, if_neg (by omega)]
    exact h.rest j (by omega) a2
  · by_cases e : r.toNat = j
    · subst e
      rw [List.getElem?_set_self hk] at hy
      injection hy with hy; subst hy; exact absurd y0 (by show ¬ (2 : Int) = 0; omega)
    · rw [List.getElem?_set_ne e] at hy
      obtain ⟨e1, e2⟩ := h.free j y hy y0
      refine ⟨e1, fun q b1 b2 => ?_⟩
      rw [hb, if_neg (by omega)]
      exact e2 q b1 b2
theorem Apart.start : Apart ([(2, 0, 0), (0, 0, 0), (0, 0, 0), (0, 0, 0)]) 0 0 (List.replicate 256 false) := by
  have hf : ∀ k : Nat, k < 256 → (List.replicate 256 false)[k]? = some false := fun k hk => by rw [List.getElem?_replicate, if_pos hk]
  refine ⟨rfl, List.length_replicate, by omega, rfl, by omega, by omega, fun k a1 a2 => hf k (by omega), fun j x hx x0 => ?_⟩
  have hj := (List.getElem?_eq_some_iff.1 hx).1
  have hj : j < 4 := hj
  have : j = 0 ∨ j = 1 ∨ j = 2 ∨ j = 3 := by omega
  rcases this with rfl | rfl | rfl | rfl
  · injection hx with hx; subst hx; exact absurd x0 (by decide)
  · injection hx with hx; subst hx; exact ⟨rfl, fun k b1 b2 => hf k (by omega)⟩
  · injection hx with hx; subst hx; exact ⟨rfl, fun k b1 b2 => hf k (by omega)⟩
  · injection hx with hx; subst hx; exact ⟨rfl, fun k b1 b2 => hf k (by omega)⟩
theorem RegionApart_spec (a : Option Addr) (len cap : Nat) (zs : List Int) (w : World) (h : RowArg w .u8 a len zs) (hz : ∀ z ∈ zs, 0 ≤ z ∧ z ≤ 255) (hlen : len ≤ 9223372036854775807) :
    CallC Pr f_gleanerlaw07_RegionApart [.slice a len cap] w (fun v w' => v = .bool true ∧ Fr No w w') := by
  refine call_sound T_ok fun_gleanerlaw07_RegionApart rfl (by kernel_rfl) rfl ?_
  refine CallC_intro (awake7_spec w) (fun v w1 ⟨hv, f1⟩ => ?_)
  subst hv
  refine CallC_intro (small7_spec w1) (fun v w2 ⟨hv, f2⟩ => ?_)
  subst hv
  refine CallC_intro (region_New_spec w2) (fun v w3 ⟨b, r, hv, h3, f3, hb, hr⟩ => ?_)
  subst hv
  have f3 := (f1.no f2).no f3
  have h3b := h3.tab.lt
  have h3r := h3.row.lt
  have sz1 := (f1.no f2).size
  refine CallC_intro (Claim_spec 2 w3 h3 (by omega)) (fun v w4 ⟨rs4, c4, h4, f4⟩ => ?_)
  have e4 : rs4 = [(2, 0, 0), (0, 0, 0), (0, 0, 0), (0, 0, 0)] ∧ v = .tuple #[.int .i64 0, .int .i64 0] := by
    rcases c4 with ⟨k, x, hx, x0, hm, e, hv⟩ | ⟨hn, _, _⟩
    · cases k with
      | zero => simp only [zero4, List.getElem?_cons_zero, Option.some.injEq] at hx; subst hx; exact ⟨e, hv⟩
      | succ k => exact absurd rfl (hm 0 (0, 0, 0) (by omega) rfl)
    · exact absurd rfl (hn 0 (0, 0, 0) rfl)
  obtain ⟨rfl, rfl⟩ := e4
  have f4 : Fr No w w4 := f3.new f4 (fun _ _ e => e) (fun k e => by omega)
  have s4 := f4.size
  refine NewC_blk (fun ub w5 hub h5 f5 _ => ?_)
  have h5 : Blk w5 ub 64 (List.replicate 256 (.bool false)) := h5
  have e5 : List.replicate 256 (.bool false) = bools (List.replicate 256 false) := by simp only [bools, List.map_replicate]
  rw [e5] at h5
  have hub0 : w.heap.size ≤ ub := by omega
  have n1 : ub ≠ b := by have := h4.tab.lt; omega
  have n2 : ub ≠ r := by have := h4.row.lt; omega
  refine LoopC_intro (α := Int × Int) (fun x => [(0, .slice a len cap), (3, .pointer (some ⟨b, 0, none⟩)), (4, .int .i64 0), (5, .int .i64 x.2), (6, .pointer (some ⟨ub, 0, none⟩)), (7, .int .i64 x.1)])
    (fun m x w1 => ∃ rs u bl, IsReg w1 b r 64 rs ∧ Blk w1 ub 64 (bools bl) ∧ Apart rs x.2 u bl ∧ Fr No w w1 ∧ 0 ≤ x.1 ∧ x.1 ≤ len ∧ m = (len - x.1).toNat)
    (len - 0 : Int).toNat (0, 0) ⟨rfl, rfl, rfl, rfl, rfl, rfl, trivial⟩
    ⟨_, 0, _, h4.keep f5 id id, h5, Apart.start, f4.no f5, (show (0 : Int) ≤ 0 by omega), (show (0 : Int) ≤ len by omega), rfl⟩ ?_
  rintro m ⟨i, r0⟩ w6 ⟨rs, u, bl, hI, hU, hA, hF, i0, i1, hm⟩
  have hA : Apart rs r0 u bl := hA
  have i0 : 0 ≤ i := i0
  have i1 : i ≤ len := i1
  have hm : m = (len - i).toNat := hm
  refine Br_dec (fun g0 => ?_) (fun g0 => ?_)
  · have g0 : i < (len : Int) := g0
    have h6 := h.keep hF
    rcases h6 with ⟨_, h60, _⟩ | ⟨x, hx, hxl, hxc⟩
    · omega
    subst hx
    refine Sd_intro ⟨i0, g0⟩ ?_
    have hi : i.toNat < zs.length := by omega
    have hzi := hz _ (List.getElem_mem hi)
    have hxi := hxc i.toNat _ (List.getElem?_eq_getElem hi)
    generalize zs[i.toNat] = z at hzi hxi
    refine LdC_intro (show w6.cell? (x.add (i.toNat * 1)) = _ by rw [Nat.mul_one]; exact hxi) ?_
    refine Sd_intro (by omega) ?_
    have en : IntKind.i64.wrap (Int.tmod (IntKind.i64.wrap z) 64 + 1) = z % 64 + 1 := by
      rw [wrap_i64 (n := z) (by omega) (by omega), tmod_eq (by omega), wrap_i64 (by omega) (by omega)]
    have nb : 1 ≤ IntKind.i64.wrap (Int.tmod (IntKind.i64.wrap z) 64 + 1) ∧ IntKind.i64.wrap (Int.tmod (IntKind.i64.wrap z) 64 + 1) ≤ 64 := by rw [en]; omega
    by_cases fit : (IntKind.i64.wrap (Int.tmod (IntKind.i64.wrap z) 64 + 1)) ≤ 64 - u
    · refine CallC_intro (Bump_spec r0 (IntKind.i64.wrap (Int.tmod (IntKind.i64.wrap z) 64 + 1)) w6 hI hA.r0 hA.cur nb.1 (show (1 : Int) ≤ 2 ∧ (2 : Int) ≤ 3 by omega) fit) (fun v w7 ⟨hv, h7, f7⟩ => ?_)
      subst hv
      have hF7 := hF.new f7 (fun _ _ e => e) (fun k e => by omega)
      have hU7 := hU.keep f7 (show ¬ ub = r from n2)
      have r3 := hA.r3
      have r00 := hA.r0
      have u0 := hA.u0
      have u1 := hA.u1
      have x7 : (rs.set r0.toNat (2, u + (IntKind.i64.wrap (Int.tmod (IntKind.i64.wrap z) 64 + 1)), 0))[r0.toNat]? = some (2, u + (IntKind.i64.wrap (Int.tmod (IntKind.i64.wrap z) 64 + 1)), 0) := by rw [List.getElem?_set_self (List.getElem?_eq_some_iff.1 hA.cur).1]
      have q1 : IntKind.i64.wrap (64 * r0) = 64 * r0 := wrap_i64 (by omega) (by omega)
      have q2 : IntKind.i64.wrap (64 * r0 + 64) = 64 * r0 + 64 := wrap_i64 (by omega) (by omega)
      have q3 : IntKind.i64.wrap (r0 * 64 + u + (IntKind.i64.wrap (Int.tmod (IntKind.i64.wrap z) 64 + 1))) = r0 * 64 + u + (IntKind.i64.wrap (Int.tmod (IntKind.i64.wrap z) 64 + 1)) := wrap_i64 (by omega) (by omega)
      refine Br_df (show ¬ r0 * 64 + u < IntKind.i64.wrap (64 * r0) by rw [q1]; omega) ?_
      refine Br_df (show ¬ IntKind.i64.wrap (r0 * 64 + u + (IntKind.i64.wrap (Int.tmod (IntKind.i64.wrap z) 64 + 1))) > IntKind.i64.wrap (IntKind.i64.wrap (64 * r0) + 64) by rw [q1, q2, q3]; omega) ?_
      refine CallC_intro (Top_spec r0 _ h7 r00 x7) (fun v w10 ⟨hv, f10⟩ => ?_)
      subst hv
      refine Br_nf (show r0 * 64 + (u + (IntKind.i64.wrap (Int.tmod (IntKind.i64.wrap z) 64 + 1))) = IntKind.i64.wrap (r0 * 64 + u + (IntKind.i64.wrap (Int.tmod (IntKind.i64.wrap z) 64 + 1))) by rw [q3]; omega) ?_
      have h10 := h7.keep f10 id id
      refine CallC_intro (State_spec r0 _ h10 r00 x7) (fun v w11 ⟨hv, f11⟩ => ?_)
      subst hv
      have h11 := h10.keep f11 id id
      have hU11 := (hU7.keep f10 id).keep f11 id
      have hF11 := (hF7.no f10).no f11
      refine LoopC_intro (α := Int) (fun k => [(0, .slice (some x) len cap), (3, .pointer (some ⟨b, 0, none⟩)), (4, .int .i64 0), (5, .int .i64 r0), (6, .pointer (some ⟨ub, 0, none⟩)), (7, .int .i64 i), (8, .int .i64 (IntKind.i64.wrap (Int.tmod (IntKind.i64.wrap z) 64 + 1))), (9, .int .i64 (r0 * 64 + u)), (11, .int .i64 k)])
        (fun m2 k w1 => ∃ bl', IsReg w1 b r 64 (rs.set r0.toNat (2, u + (IntKind.i64.wrap (Int.tmod (IntKind.i64.wrap z) 64 + 1)), 0)) ∧ Blk w1 ub 64 (bools bl') ∧ bl'.length = bl.length ∧ (∀ j : Nat, bl'[j]? = if r0 * 64 + u ≤ (j : Int) ∧ (j : Int) < k then some true else bl[j]?) ∧ Fr No w w1 ∧ r0 * 64 + u ≤ k ∧ k ≤ r0 * 64 + u + (IntKind.i64.wrap (Int.tmod (IntKind.i64.wrap z) 64 + 1)) ∧ m2 = (r0 * 64 + u + (IntKind.i64.wrap (Int.tmod (IntKind.i64.wrap z) 64 + 1)) - k).toNat)
        (r0 * 64 + u + (IntKind.i64.wrap (Int.tmod (IntKind.i64.wrap z) 64 + 1)) - (r0 * 64 + u)).toNat (r0 * 64 + u) ⟨rfl, rfl, rfl, rfl, rfl, rfl, rfl, rfl, rfl, trivial⟩
        ⟨bl, h11, hU11, rfl, fun j => (by rw [if_neg (fun hh => by have := hh.1; have h2 := hh.2; omega)]), hF11, Int.le_refl _, (by omega), rfl⟩ ?_
      rintro m2 k w12 ⟨bl', h12, hU12, hl12, hb12, hF12, k0, k1, hm2⟩
      refine Br_dec (fun g2 => ?_) (fun g2 => ?_)
      · have g2 : k < IntKind.i64.wrap (r0 * 64 + u + (IntKind.i64.wrap (Int.tmod (IntKind.i64.wrap z) 64 + 1))) := g2
        rw [q3] at g2
        have hn256 := hA.n256
        have hkl : k.toNat < bl'.length := by omega
        have hbk : bl'[k.toNat]? = some false := by
          rw [hb12, if_neg (by omega)]
          exact hA.rest k.toNat (by omega) (by omega)
        refine Sd_intro (show 0 ≤ k ∧ k < 256 by omega) ?_
        refine LdC_idx (v := .bool false) hU12 (by rw [Nat.zero_add, Nat.mul_one]; exact bools_get? hbk) ?_
        refine Sd_intro (show 0 ≤ k ∧ k < 256 by omega) ?_
        refine StC_idx hU12 rfl (u := .bool false) (by rw [Nat.zero_add, Nat.mul_one]; exact bools_get? hbk) (fun w13 h13 f13 _ => ?_)
        rw [Nat.zero_add, Nat.mul_one, bools_set] at h13
        have ek : IntKind.i64.wrap (k + 1) = k + 1 := wrap_i64 (by omega) (by omega)
        refine ⟨(r0 * 64 + u + (IntKind.i64.wrap (Int.tmod (IntKind.i64.wrap z) 64 + 1)) - (k + 1)).toNat, _, by omega, ?_, k + 1, rfl, bl'.set k.toNat true, h12.keep f13 (fun e => n1 e.symm) (fun e => n2 e.symm), h13, by rw [List.length_set]; exact hl12, fun j => ?_, hF12.new f13 (fun _ _ e => e) (fun j e => by omega), by omega, by omega, rfl⟩
        · exact ⟨rfl, rfl, rfl, rfl, rfl, rfl, rfl, rfl, look_int rfl ek, trivial⟩
        · rw [List.getElem?_set]
          by_cases e : k.toNat = j
          · rw [if_pos e, if_pos hkl, if_pos (by omega)]
          · rw [if_neg e, hb12]
            have : (r0 * 64 + u ≤ (j : Int) ∧ (j : Int) < k) = (r0 * 64 + u ≤ (j : Int) ∧ (j : Int) < k + 1) := propext ⟨fun _ => by omega, fun _ => by omega⟩
            simp only [this]
      · have g2 : ¬ k < IntKind.i64.wrap (r0 * 64 + u + (IntKind.i64.wrap (Int.tmod (IntKind.i64.wrap z) 64 + 1))) := g2
        rw [q3] at g2
        have ek : k = r0 * 64 + u + (IntKind.i64.wrap (Int.tmod (IntKind.i64.wrap z) 64 + 1)) := by omega
        subst ek
        have ei : IntKind.i64.wrap (i + 1) = i + 1 := wrap_i64 (by omega) (by omega)
        refine ⟨(len - (i + 1)).toNat, _, by omega, ?_, (i + 1, r0), rfl, _, u + (IntKind.i64.wrap (Int.tmod (IntKind.i64.wrap z) 64 + 1)), bl', h12, hU12, hA.bump nb.1 (by omega) hl12 hb12, hF12, (show (0 : Int) ≤ i + 1 by omega), (show i + 1 ≤ len by omega), rfl⟩
        exact ⟨rfl, rfl, rfl, rfl, rfl, look_int rfl ei, trivial⟩
    · refine CallC_intro (Bump_full r0 (IntKind.i64.wrap (Int.tmod (IntKind.i64.wrap z) 64 + 1)) w6 hI hA.r0 hA.cur nb.1 (show (1 : Int) ≤ 2 ∧ (2 : Int) ≤ 3 by omega) (show 64 - u < (IntKind.i64.wrap (Int.tmod (IntKind.i64.wrap z) 64 + 1)) by omega)) (fun v w7 ⟨hv, f7⟩ => ?_)
      subst hv
      refine CallC_intro (Claim_spec 2 w7 (hI.keep f7 id id) (by omega)) (fun v w8 ⟨rs8, c8, h8, f8⟩ => ?_)
      have hF8 : Fr No w w8 := (hF.no f7).new f8 (fun _ _ e => e) (fun k e => by omega)
      rcases c8 with ⟨k, x8, hx8, x80, hm8, e8, hv⟩ | ⟨hn8, e8, hv⟩
      · subst hv e8
        have hA := hA.claim hx8 x80
        have hU := (hU.keep f7 id).keep f8 (show ¬ ub = r from n2)
        have hI := h8
        have hF := hF8
        have fit : (IntKind.i64.wrap (Int.tmod (IntKind.i64.wrap z) 64 + 1)) ≤ 64 - (0 : Int) := by omega
        obtain ⟨rs9, hrs9⟩ : ∃ l, l = rs.set k (2, x8.2) := ⟨_, rfl⟩
        rw [← hrs9] at hA hI
        refine CallC_intro (Bump_spec (k : Int) (IntKind.i64.wrap (Int.tmod (IntKind.i64.wrap z) 64 + 1)) w8 hI hA.r0 hA.cur nb.1 (show (1 : Int) ≤ 2 ∧ (2 : Int) ≤ 3 by omega) fit) (fun v w9 ⟨hv, h9, f9⟩ => ?_)
        subst hv
        have h7 := h9
        have hF7 := hF.new f9 (fun _ _ e => e) (fun k e => by omega)
        have hU7 := hU.keep f9 (show ¬ ub = r from n2)
        have r3 := hA.r3
        have r00 := hA.r0
        have u0 : (0 : Int) ≤ 0 := hA.u0
        have u1 := hA.u1
        have x7 : (rs9.set (k : Int).toNat (2, 0 + (IntKind.i64.wrap (Int.tmod (IntKind.i64.wrap z) 64 + 1)), 0))[(k : Int).toNat]? = some (2, 0 + (IntKind.i64.wrap (Int.tmod (IntKind.i64.wrap z) 64 + 1)), 0) := by rw [List.getElem?_set_self (List.getElem?_eq_some_iff.1 hA.cur).1]
        have q1 : IntKind.i64.wrap (64 * (k : Int)) = 64 * (k : Int) := wrap_i64 (by omega) (by omega)
        have q2 : IntKind.i64.wrap (64 * (k : Int) + 64) = 64 * (k : Int) + 64 := wrap_i64 (by omega) (by omega)
        have q3 : IntKind.i64.wrap ((k : Int) * 64 + 0 + (IntKind.i64.wrap (Int.tmod (IntKind.i64.wrap z) 64 + 1))) = (k : Int) * 64 + 0 + (IntKind.i64.wrap (Int.tmod (IntKind.i64.wrap z) 64 + 1)) := wrap_i64 (by omega) (by omega)
        refine Br_df (show ¬ (k : Int) * 64 + 0 < IntKind.i64.wrap (64 * (k : Int)) by rw [q1]; omega) ?_
        refine Br_df (show ¬ IntKind.i64.wrap ((k : Int) * 64 + 0 + (IntKind.i64.wrap (Int.tmod (IntKind.i64.wrap z) 64 + 1))) > IntKind.i64.wrap (IntKind.i64.wrap (64 * (k : Int)) + 64) by rw [q1, q2, q3]; omega) ?_
        refine CallC_intro (Top_spec (k : Int) _ h7 r00 x7) (fun v w10 ⟨hv, f10⟩ => ?_)
        subst hv
        refine Br_nf (show (k : Int) * 64 + (0 + (IntKind.i64.wrap (Int.tmod (IntKind.i64.wrap z) 64 + 1))) = IntKind.i64.wrap ((k : Int) * 64 + 0 + (IntKind.i64.wrap (Int.tmod (IntKind.i64.wrap z) 64 + 1))) by rw [q3]; omega) ?_
        have h10 := h7.keep f10 id id
        refine CallC_intro (State_spec (k : Int) _ h10 r00 x7) (fun v w11 ⟨hv, f11⟩ => ?_)
        subst hv
        have h11 := h10.keep f11 id id
        have hU11 := (hU7.keep f10 id).keep f11 id
        have hF11 := (hF7.no f10).no f11
        refine LoopC_intro (α := Int) (fun kk => [(0, .slice (some x) len cap), (3, .pointer (some ⟨b, 0, none⟩)), (4, .int .i64 0), (5, .int .i64 (k : Int)), (6, .pointer (some ⟨ub, 0, none⟩)), (7, .int .i64 i), (8, .int .i64 (IntKind.i64.wrap (Int.tmod (IntKind.i64.wrap z) 64 + 1))), (9, .int .i64 ((k : Int) * 64 + 0)), (11, .int .i64 kk)])
          (fun m2 kk w1 => ∃ bl', IsReg w1 b r 64 (rs9.set (k : Int).toNat (2, 0 + (IntKind.i64.wrap (Int.tmod (IntKind.i64.wrap z) 64 + 1)), 0)) ∧ Blk w1 ub 64 (bools bl') ∧ bl'.length = bl.length ∧ (∀ j : Nat, bl'[j]? = if (k : Int) * 64 + 0 ≤ (j : Int) ∧ (j : Int) < kk then some true else bl[j]?) ∧ Fr No w w1 ∧ (k : Int) * 64 + 0 ≤ kk ∧ kk ≤ (k : Int) * 64 + 0 + (IntKind.i64.wrap (Int.tmod (IntKind.i64.wrap z) 64 + 1)) ∧ m2 = ((k : Int) * 64 + 0 + (IntKind.i64.wrap (Int.tmod (IntKind.i64.wrap z) 64 + 1)) - kk).toNat)
          ((k : Int) * 64 + 0 + (IntKind.i64.wrap (Int.tmod (IntKind.i64.wrap z) 64 + 1)) - ((k : Int) * 64 + 0)).toNat ((k : Int) * 64 + 0) ⟨rfl, rfl, rfl, rfl, rfl, rfl, rfl, rfl, rfl, trivial⟩
          ⟨bl, h11, hU11, rfl, fun j => (by rw [if_neg (fun hh => by have := hh.1; have h2 := hh.2; omega)]), hF11, Int.le_refl _, (by omega), rfl⟩ ?_
        rintro m2 kk w12 ⟨bl', h12, hU12, hl12, hb12, hF12, kk0, kk1, hm2⟩
        refine Br_dec (fun g2 => ?_) (fun g2 => ?_)
        · have g2 : kk < IntKind.i64.wrap ((k : Int) * 64 + 0 + (IntKind.i64.wrap (Int.tmod (IntKind.i64.wrap z) 64 + 1))) := g2
          rw [q3] at g2
          have hn256 := hA.n256
          have hkl : kk.toNat < bl'.length := by omega
          have hbk : bl'[kk.toNat]? = some false := by
            rw [hb12, if_neg (by omega)]
            exact hA.rest kk.toNat (by omega) (by omega)
          refine Sd_intro (show 0 ≤ kk ∧ kk < 256 by omega) ?_
          refine LdC_idx (v := .bool false) hU12 (by rw [Nat.zero_add, Nat.mul_one]; exact bools_get? hbk) ?_
          refine Sd_intro (show 0 ≤ kk ∧ kk < 256 by omega) ?_
          refine StC_idx hU12 rfl (u := .bool false) (by rw [Nat.zero_add, Nat.mul_one]; exact bools_get? hbk) (fun w13 h13 f13 _ => ?_)
          rw [Nat.zero_add, Nat.mul_one, bools_set] at h13
          have ek : IntKind.i64.wrap (kk + 1) = kk + 1 := wrap_i64 (by omega) (by omega)
          refine ⟨((k : Int) * 64 + 0 + (IntKind.i64.wrap (Int.tmod (IntKind.i64.wrap z) 64 + 1)) - (kk + 1)).toNat, _, by omega, ?_, kk + 1, rfl, bl'.set kk.toNat true, h12.keep f13 (fun e => n1 e.symm) (fun e => n2 e.symm), h13, by rw [List.length_set]; exact hl12, fun j => ?_, hF12.new f13 (fun _ _ e => e) (fun j e => by omega), by omega, by omega, rfl⟩
          · exact ⟨rfl, rfl, rfl, rfl, rfl, rfl, rfl, rfl, look_int rfl ek, trivial⟩
          · rw [List.getElem?_set]
            by_cases e : kk.toNat = j
            · rw [if_pos e, if_pos hkl, if_pos (by omega)]
            · rw [if_neg e, hb12]
              have : ((k : Int) * 64 + 0 ≤ (j : Int) ∧ (j : Int) < kk) = ((k : Int) * 64 + 0 ≤ (j : Int) ∧ (j : Int) < kk + 1) := propext ⟨fun _ => by omega, fun _ => by omega⟩
              simp only [this]
        · have g2 : ¬ kk < IntKind.i64.wrap ((k : Int) * 64 + 0 + (IntKind.i64.wrap (Int.tmod (IntKind.i64.wrap z) 64 + 1))) := g2
          rw [q3] at g2
          have ek : kk = (k : Int) * 64 + 0 + (IntKind.i64.wrap (Int.tmod (IntKind.i64.wrap z) 64 + 1)) := by omega
          subst ek
          have ei : IntKind.i64.wrap (i + 1) = i + 1 := wrap_i64 (by omega) (by omega)
          refine ⟨(len - (i + 1)).toNat, _, by omega, ?_, (i + 1, (k : Int)), rfl, _, 0 + (IntKind.i64.wrap (Int.tmod (IntKind.i64.wrap z) 64 + 1)), bl', h12, hU12, hA.bump nb.1 (by omega) hl12 hb12, hF12, (show (0 : Int) ≤ i + 1 by omega), (show i + 1 ≤ len by omega), rfl⟩
          exact ⟨rfl, rfl, rfl, rfl, rfl, look_int rfl ei, trivial⟩
      · subst hv e8
        refine CallC_intro (List_spec 0 w8 h8) (fun v w9 ⟨ho, f9⟩ => ?_)
        have hnil : idxs 0 rs8 rs8.length = [] := by
          unfold idxs
          rw [List.map_eq_nil_iff, List.filter_eq_nil_iff]
          intro j hj
          rw [decide_eq_true_eq]
          intro e
          cases hy : rs8[j]? with
          | none => rw [hy] at e; cases e
          | some y => rw [hy] at e; injection e with e; exact hn8 j y hy e
        rw [hnil] at ho
        rcases own_cases ho with ⟨hv, _, _⟩ | ⟨g, cp, cur, hv, _⟩
        · subst hv
          exact ⟨rfl, hF8.no f9⟩
        · subst hv
          exact ⟨rfl, hF8.no f9⟩
  · exact ⟨rfl, hF⟩
end Go.Proofs.Ytilhoimokegpjaa
