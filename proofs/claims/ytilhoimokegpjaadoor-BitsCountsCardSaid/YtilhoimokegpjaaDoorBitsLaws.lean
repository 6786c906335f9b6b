/- BitsCounts' and BitsApart's walks. -/
import Derived.Test.YtilhoimokegpjaaDoorBits01
import Derived.Test.YtilhoimokegpjaaDoorSame01
namespace Go.Proofs.YtilhoimokegpjaaDoor
open Go.Vc

def rd (a : Int) : Int := (IntKind.i64.wrap (Int.tmod a 1001 + 1001)).tmod 1001
theorem rd_bd (a : Int) : 0 ≤ rd a ∧ rd a ≤ 1000 := by
  have h1 : -1001 < a.tmod 1001 ∧ a.tmod 1001 < 1001 := ⟨by have := Int.lt_tmod_of_pos a (show (0 : Int) < 1001 by omega); omega, Int.tmod_lt_of_pos a (by omega)⟩
  unfold rd
  rw [wrap_i64 (by omega) (by omega), tmod_eq (by omega)]; omega
theorem rowAt {w : World} {k : IntKind} {a : Option Addr} {len : Nat} {zs : List Int} (h : RowArg w k a len zs) {i : Nat} (hi : i < len) : ∃ x z, a = some x ∧ zs[i]? = some z ∧ w.cell? (x.add i) = some (.int k z) := by
  rcases h with ⟨_, h, _⟩ | ⟨x, ha, hl, hc⟩
  · omega
  · have hlt : i < zs.length := by omega
    exact ⟨x, _, ha, List.getElem?_eq_getElem hlt, hc i _ (List.getElem?_eq_getElem hlt)⟩
theorem cnt_bput (S : Nat → Bool) (k m : Nat) (hk : k < m) : cnt (bput S k) m = cnt S m + (!S k).toNat := by
  induction m with
  | zero => omega
  | succ m ih =>
    simp only [cnt]
    by_cases h : k = m
    · subst h
      have e : cnt (bput S k) k = cnt S k := cnt_congr fun j hj => by unfold bput; rw [decide_eq_false (by omega)]; rfl
      rw [e]
      unfold bput
      rw [decide_eq_true rfl]
      cases S k <;> rfl
    · rw [ih (by omega)]
      have e : bput S k m = S m := by unfold bput; rw [decide_eq_false (by omega)]; rfl
      rw [e]; omega
theorem elems_prefix (S : Nat → Bool) {m n : Nat} (h : m ≤ n) : ∃ r, elems S n = elems S m ++ r := by
  obtain ⟨d, rfl⟩ : ∃ d, n = m + d := ⟨n - m, by omega⟩
  clear h
  induction d with
  | zero => exact ⟨[], by simp⟩
  | succ d ih =>
    obtain ⟨r, hr⟩ := ih
    refine ⟨r ++ (if S (m + d) = true then [((m + d : Nat) : Int)] else []), ?_⟩
    show elems S (m + d + 1) = _
    simp only [elems]
    rw [hr, List.append_assoc]
theorem BitsCounts_spec (ad : Option Addr) (len cap : Nat) (zs : List Int) (a b c : Int) (w : World) (hT : Tab64 w) (hr : RowArg w .u16 ad len zs) (hz : ∀ z ∈ zs, 0 ≤ z ∧ z ≤ 65535) (hl : len ≤ 9223372036854775807) :
    CallC Pr f_gleanerlaw01_BitsCounts [.slice ad len cap, .int .i64 a, .int .i64 b, .int .i64 c] w (fun v w' => v = .bool true ∧ Fr No w w') := by
  refine call_sound T_ok fun_gleanerlaw01_BitsCounts rfl (by kernel_rfl) rfl (Kp ?_)
  refine CallC_intro (awake01_spec w hT) (fun v w1 ⟨hv, f1⟩ => ?_)
  subst hv
  refine CallC_intro (bits_New_spec 1000 w1 (by omega) (by omega)) (fun v w2 ⟨p, r, hv, hB, f2, hp, hrr⟩ => ?_)
  subst hv
  have hg := hT.lt
  have s1 := f1.size
  have f12 := f1.no f2
  have hT2 := hT.keep f12 id
  refine LoopC_intro (α := Int × Int) (fun q => [(0, .slice ad len cap), (1, .int .i64 a), (2, .int .i64 b), (3, .int .i64 c), (9, .pointer (some ⟨p, 0, none⟩)), (11, .int .i64 q.1), (12, .int .i64 q.2)])
    (fun m q w3 => (∃ S, IsBits w3 p r 1000 S ∧ q.1 = ((cnt S 1000 : Nat) : Int)) ∧ Fr No w w3 ∧ 0 ≤ q.2 ∧ q.2 ≤ len ∧ m = (len - q.2).toNat)
    (len - 0 : Int).toNat (0, 0) ⟨rfl, rfl, rfl, rfl, rfl, rfl, rfl, trivial⟩ ⟨⟨_, hB, by rw [cnt_none (fun _ _ => rfl)]; rfl⟩, f12, Int.le_refl _, (show (0 : Int) ≤ len by omega), rfl⟩ (fun m q w3 hJ => Kp ?_)
  obtain ⟨n, i⟩ := q
  obtain ⟨⟨S, hS, hn⟩, f3, i0, i1, hm⟩ := hJ
  have hn : n = ((cnt S 1000 : Nat) : Int) := hn
  have i0 : 0 ≤ i := i0
  have i1 : i ≤ len := i1
  have hm : m = (len - i).toNat := hm
  have hc := cnt_le S 1000
  have ei : i < len → IntKind.i64.wrap (i + 1) = i + 1 := fun h => wrap_i64 (by omega) (by omega)
  refine Br_dec (fun g => ?_) (fun g => ?_)
  · have g : i < (len : Int) := g
    refine Br_dec (fun g1 => ?_) (fun g1 => ?_)
    · obtain ⟨x, z, rfl, hzi, hcell⟩ := rowAt (hr.keep f3) (show i.toNat < len by omega)
      have hzb := hz z (List.mem_of_getElem? hzi)
      have ek : (IntKind.i64.wrap z).tmod 1000 = z % 1000 := by rw [wrap_i64 (by omega) (by omega), tmod_eq (by omega)]
      have kb : 0 ≤ z % 1000 ∧ z % 1000 < 1000 := by omega
      refine Sd_intro (show 0 ≤ i ∧ i < (len : Int) by omega) ?_
      refine LdC_intro (v := .int .u16 z) (by rw [Nat.mul_one]; exact hcell) ?_
      refine Sd_intro (by omega) ?_
      refine CallC_intro (Has_spec ((IntKind.i64.wrap z).tmod 1000) w3 hS) (fun v w4 ⟨hv, f4⟩ => ?_)
      have eh : has S ((IntKind.i64.wrap z).tmod 1000) = S (z % 1000).toNat := by
        rw [ek]; unfold has; rw [decide_eq_true kb.1]; rfl
      rw [eh] at hv
      subst hv
      refine CallC_intro (Put_spec ((IntKind.i64.wrap z).tmod 1000) w4 (hS.keep f4 id id) (by rw [ek]; omega) (by rw [ek]; omega)) (fun v w5 ⟨hv, h5, f5⟩ => ?_)
      rw [ek] at hv h5
      subst hv
      refine Br_f (show ((!S (z % 1000).toNat) == S (z % 1000).toNat) = false by cases S (z % 1000).toNat <;> rfl) ?_
      refine CallC_intro (Has_spec ((IntKind.i64.wrap z).tmod 1000) w5 h5) (fun v w6 ⟨hv, f6⟩ => ?_)
      have eh2 : has (bput S (z % 1000).toNat) ((IntKind.i64.wrap z).tmod 1000) = true := by
        rw [ek]; unfold has bput; rw [decide_eq_true kb.1, decide_eq_true rfl]; rfl
      rw [eh2] at hv
      subst hv
      have h6 := h5.keep f6 id id
      have f36 : Fr No w w6 := ((f3.no f4).new f5 (fun _ _ e => e) (fun k e => by omega)).no f6
      have hcp := cnt_bput S (z % 1000).toNat 1000 (by omega)
      refine Br_intro (fun g2 => ?_) (fun g2 => ?_)
      · have g2 : (!S (z % 1000).toNat) = true := g2
        rw [g2] at hcp
        refine ⟨(len - (i + 1)).toNat, _, by omega, ?_, (n + 1, i + 1), rfl, ⟨_, h6, ?_⟩, f36, (show 0 ≤ i + 1 by omega), (show i + 1 ≤ (len : Int) by omega), rfl⟩
        · exact ⟨rfl, rfl, rfl, rfl, rfl, look_int rfl (wrap_i64 (by omega) (by omega)), look_int rfl (ei g), trivial⟩
        · show n + 1 = _
          rw [hcp, hn, Bool.toNat_true]; omega
      · have g2 : (!S (z % 1000).toNat) = false := g2
        rw [g2] at hcp
        refine ⟨(len - (i + 1)).toNat, _, by omega, ?_, (n, i + 1), rfl, ⟨_, h6, ?_⟩, f36, (show 0 ≤ i + 1 by omega), (show i + 1 ≤ (len : Int) by omega), rfl⟩
        · exact ⟨rfl, rfl, rfl, rfl, rfl, rfl, look_int rfl (ei g), trivial⟩
        · show n = _
          rw [hcp, hn, Bool.toNat_false]; omega
    · obtain ⟨A0, A1⟩ := rd_bd a
      obtain ⟨B0, B1⟩ := rd_bd b
      obtain ⟨C0, C1⟩ := rd_bd c
      refine Sd_intro (by omega) ?_
      refine Sd_intro (by omega) ?_
      refine Sd_intro (by omega) ?_
      refine Sd_intro (by omega) ?_
      refine Sd_intro (by omega) ?_
      refine Sd_intro (by omega) ?_
      generalize hlo : min (min (rd a) (rd b)) (rd c) = lo
      generalize hhi : max (max (rd a) (rd b)) (rd c) = hi
      have elo : imin (imin (rd a) (rd b)) (rd c) = lo := by rw [imin_eq, imin_eq, hlo]
      have ehi : imax (imax (rd a) (rd b)) (rd c) = hi := by rw [imax_eq, imax_eq, hhi]
      generalize hmi : rd a + rd b + rd c - lo - hi = mid
      have emi : IntKind.i64.wrap (IntKind.i64.wrap (IntKind.i64.wrap (IntKind.i64.wrap (rd a + rd b) + rd c) - imin (imin (rd a) (rd b)) (rd c)) - imax (imax (rd a) (rd b)) (rd c)) = mid := by
        rw [elo, ehi, wrap_i64 (n := rd a + rd b) (by omega) (by omega), wrap_i64 (n := rd a + rd b + rd c) (by omega) (by omega), wrap_i64 (n := rd a + rd b + rd c - lo) (by omega) (by omega), wrap_i64 (by omega) (by omega), hmi]
      have hlm : lo ≤ mid ∧ mid ≤ hi := by omega
      have clh : cnt (within S lo hi) 1000 = cnt (within S lo mid) 1000 + cnt (within S mid hi) 1000 := cnt_or fun j hj => by
        unfold within
        by_cases h1 : (j : Int) < mid
        · have e1 : decide (lo ≤ (j : Int) ∧ (j : Int) < hi) = decide (lo ≤ (j : Int) ∧ (j : Int) < mid) := decide_eq_decide.2 ⟨fun h => by omega, fun h => by omega⟩
          rw [e1, decide_eq_false (show ¬ (mid ≤ (j : Int) ∧ (j : Int) < hi) by omega)]; simp
        · have e1 : decide (lo ≤ (j : Int) ∧ (j : Int) < hi) = decide (mid ≤ (j : Int) ∧ (j : Int) < hi) := decide_eq_decide.2 ⟨fun h => by omega, fun h => by omega⟩
          rw [e1, decide_eq_false (show ¬ (lo ≤ (j : Int) ∧ (j : Int) < mid) by omega)]; simp
      have call : cnt (within S (-5) 2000) 1000 = cnt S 1000 := cnt_congr fun j hj => by
        unfold within; rw [decide_eq_true (by omega)]; rfl
      have chl : cnt (within S hi lo) 1000 = 0 := cnt_none fun j hj => by
        unfold within; rw [decide_eq_false (by omega)]; rfl
      have cl1 := cnt_le (within S lo mid) 1000
      have cl2 := cnt_le (within S mid hi) 1000
      refine CallC_intro (Count_spec (imin (imin (rd a) (rd b)) (rd c)) (imax (imax (rd a) (rd b)) (rd c)) w3 hS (by rw [elo]; omega)) (fun v w4 ⟨hv, f4⟩ => ?_)
      rw [elo, ehi] at hv
      subst hv
      refine CallC_intro (Count_spec (imin (imin (rd a) (rd b)) (rd c)) (IntKind.i64.wrap (IntKind.i64.wrap (IntKind.i64.wrap (IntKind.i64.wrap (rd a + rd b) + rd c) - imin (imin (rd a) (rd b)) (rd c)) - imax (imax (rd a) (rd b)) (rd c))) w4 (hS.keep f4 id id) (by rw [elo]; omega)) (fun v w5 ⟨hv, f5⟩ => ?_)
      rw [emi, elo] at hv
      subst hv
      have f45 := f4.no f5
      refine CallC_intro (Count_spec (IntKind.i64.wrap (IntKind.i64.wrap (IntKind.i64.wrap (IntKind.i64.wrap (rd a + rd b) + rd c) - imin (imin (rd a) (rd b)) (rd c)) - imax (imax (rd a) (rd b)) (rd c))) (imax (imax (rd a) (rd b)) (rd c)) w5 (hS.keep f45 id id) (by rw [emi]; omega)) (fun v w6 ⟨hv, f6⟩ => ?_)
      rw [emi, ehi] at hv
      subst hv
      have f46 := f45.no f6
      refine Br_nf (show ((cnt (within S lo hi) (1000 : Int).toNat : Nat) : Int) = IntKind.i64.wrap (((cnt (within S lo mid) (1000 : Int).toNat : Nat) : Int) + ((cnt (within S mid hi) (1000 : Int).toNat : Nat) : Int)) by
        rw [show (1000 : Int).toNat = 1000 from rfl, wrap_i64 (by omega) (by omega), clh]; omega) ?_
      refine CallC_intro (Count_spec (-5) 2000 w6 (hS.keep f46 id id) (by omega)) (fun v w7 ⟨hv, f7⟩ => ?_)
      subst hv
      have f47 := f46.no f7
      refine Br_nf (show ((cnt (within S (-5) 2000) (1000 : Int).toNat : Nat) : Int) = n by rw [show (1000 : Int).toNat = 1000 from rfl, call, hn]) ?_
      refine CallC_intro (Count_spec (imax (imax (rd a) (rd b)) (rd c)) (imin (imin (rd a) (rd b)) (rd c)) w7 (hS.keep f47 id id) (by rw [ehi]; omega)) (fun v w8 ⟨hv, f8⟩ => ?_)
      rw [elo, ehi] at hv
      rw [show (1000 : Int).toNat = 1000 from rfl, chl] at hv
      subst hv
      have f48 := f47.no f8
      refine CallC_intro (List_spec w8 (hS.keep f48 id id) ((hT.keep f3 id).keep f48 id)) (fun v w9 ⟨o9, f9⟩ => ?_)
      have f49 := f48.no f9
      rw [show (1000 : Int).toNat = 1000 from rfl] at o9
      obtain ⟨av, cv, rfl, _⟩ := o9.ints
      refine CallC_intro (Next_spec 0 w9 (hS.keep f49 id id) ((hT.keep f3 id).keep f49 id)) (fun v w10 ⟨⟨z, hv, hz0⟩, f10⟩ => ?_)
      subst hv
      have hz0 : NextIs S 0 z := hz0
      have f410 := f49.no f10
      refine LoopC_intro (α := Int × Int) (fun q => [(9, .pointer (some ⟨p, 0, none⟩)), (11, .int .i64 n), (20, .slice av (elems S 1000).length cv), (21, .int .i64 q.1), (22, .int .i64 q.2)])
        (fun m q w11 => Fr No w9 w11 ∧ 0 ≤ q.2 ∧ (∃ t : Nat, ((elems S t).length : Int) = q.2 ∧ NextIs S t q.1 ∧ t ≤ 1000) ∧ m = ((elems S 1000).length - q.2).toNat)
        (((elems S 1000).length : Int) - 0 : Int).toNat (z, 0) ⟨rfl, rfl, rfl, rfl, rfl, trivial⟩ ⟨f10, Int.le_refl _, ⟨0, rfl, hz0, by omega⟩, rfl⟩ (fun m q w11 hJ => Kp ?_)
      obtain ⟨at_, j⟩ := q
      obtain ⟨f11, j0, ⟨t, ht, hN, ht1⟩, hm2⟩ := hJ
      have ht : ((elems S t).length : Int) = j := ht
      have hN : NextIs S t at_ := hN
      have hm2 : m = (((elems S 1000).length : Int) - j).toNat := hm2
      have hle := elems_le S 1000
      have hS11 := (hS.keep f49 id id).keep f11 id id
      have hT11 := ((hT.keep f3 id).keep f49 id).keep f11 id
      have hhi := hS.hi
      refine Br_dec (fun g4 => ?_) (fun g4 => ?_)
      · have g4 : j < ((elems S 1000).length : Int) := g4
        rcases hN with ⟨e, hno⟩ | ⟨u, rfl, u1, u2, u3⟩
        · exfalso
          have := elems_more (m := t) (n := 1000) ht1 (fun j h1 _ => hno j h1)
          rw [this] at g4; omega
        · have hu := hhi u u2
          have e1 : elems S (u + 1) = elems S t ++ [(u : Int)] := by simp only [elems]; rw [elems_more u1 u3, u2]; rfl
          obtain ⟨rest, hre⟩ := elems_prefix S (show u + 1 ≤ 1000 by omega)
          have hat : (elems S 1000)[j.toNat]? = some (u : Int) := by
            rw [hre, e1, List.append_assoc, List.getElem?_append_right (by omega)]
            rw [show j.toNat - (elems S t).length = 0 by omega]; rfl
          have hjl : j.toNat < (elems S 1000).length := by omega
          obtain ⟨x, rfl, hcx⟩ := (o9.ints.keep f11 (fun _ _ => id)).cell hjl
          have hav : (elems S 1000)[j.toNat] = (u : Int) := by rw [List.getElem?_eq_getElem hjl] at hat; injection hat
          rw [hav] at hcx
          refine Sd_intro (show 0 ≤ j ∧ j < ((elems S 1000).length : Int) by omega) ?_
          refine LdC_intro (v := .int .i64 (u : Int)) (by rw [Nat.mul_one]; exact hcx) ?_
          refine Br_nf rfl ?_
          refine CallC_intro (Has_spec (u : Int) w11 hS11) (fun v w12 ⟨hv, f12⟩ => ?_)
          have eh : has S (u : Int) = true := by unfold has; rw [decide_eq_true (by omega), Int.toNat_natCast, u2]; rfl
          rw [eh] at hv
          subst hv
          refine CallC_intro (Next_spec (IntKind.i64.wrap ((u : Int) + 1)) w12 (hS11.keep f12 id id) (hT11.keep f12 id)) (fun v w13 ⟨⟨z2, hv, hz2⟩, f13⟩ => ?_)
          subst hv
          rw [wrap_i64 (by omega) (by omega), show (max ((u : Int) + 1) 0).toNat = u + 1 by omega] at hz2
          refine ⟨(((elems S 1000).length : Int) - (j + 1)).toNat, _, by omega, ?_, (z2, j + 1), rfl, (f11.no f12).no f13, (show 0 ≤ j + 1 by omega), ⟨u + 1, ?_, hz2, by omega⟩, rfl⟩
          · exact ⟨rfl, rfl, rfl, rfl, look_int rfl (wrap_i64 (by omega) (by omega)), trivial⟩
          · show ((elems S (u + 1)).length : Int) = j + 1
            rw [e1, List.length_append, List.length_singleton]; omega
      · have g4 : ¬ j < ((elems S 1000).length : Int) := g4
        have hlt : j = ((elems S 1000).length : Int) := by
          obtain ⟨rest, hre⟩ := elems_prefix S ht1
          have := congrArg List.length hre
          rw [List.length_append] at this
          omega
        rcases hN with ⟨rfl, hno⟩ | ⟨u, rfl, u1, u2, u3⟩
        · refine ⟨?_, (f3.no f49).no f11⟩
          show Value.bool (decide (((elems S 1000).length : Int) = n)) = _
          rw [decide_eq_true (by rw [hn, elems_cnt])]
        · exfalso
          have hu := hhi u u2
          have e1 : elems S (u + 1) = elems S t ++ [(u : Int)] := by simp only [elems]; rw [elems_more u1 u3, u2]; rfl
          obtain ⟨rest, hre⟩ := elems_prefix S (show u + 1 ≤ 1000 by omega)
          have := congrArg List.length hre
          rw [e1, List.length_append, List.length_append, List.length_singleton] at this
          omega
  · obtain ⟨A0, A1⟩ := rd_bd a
    obtain ⟨B0, B1⟩ := rd_bd b
    obtain ⟨C0, C1⟩ := rd_bd c
    refine Sd_intro (by omega) ?_
    refine Sd_intro (by omega) ?_
    refine Sd_intro (by omega) ?_
    refine Sd_intro (by omega) ?_
    refine Sd_intro (by omega) ?_
    refine Sd_intro (by omega) ?_
    generalize hlo : min (min (rd a) (rd b)) (rd c) = lo
    generalize hhi : max (max (rd a) (rd b)) (rd c) = hi
    have elo : imin (imin (rd a) (rd b)) (rd c) = lo := by rw [imin_eq, imin_eq, hlo]
    have ehi : imax (imax (rd a) (rd b)) (rd c) = hi := by rw [imax_eq, imax_eq, hhi]
    generalize hmi : rd a + rd b + rd c - lo - hi = mid
    have emi : IntKind.i64.wrap (IntKind.i64.wrap (IntKind.i64.wrap (IntKind.i64.wrap (rd a + rd b) + rd c) - imin (imin (rd a) (rd b)) (rd c)) - imax (imax (rd a) (rd b)) (rd c)) = mid := by
      rw [elo, ehi, wrap_i64 (n := rd a + rd b) (by omega) (by omega), wrap_i64 (n := rd a + rd b + rd c) (by omega) (by omega), wrap_i64 (n := rd a + rd b + rd c - lo) (by omega) (by omega), wrap_i64 (by omega) (by omega), hmi]
    have hlm : lo ≤ mid ∧ mid ≤ hi := by omega
    have clh : cnt (within S lo hi) 1000 = cnt (within S lo mid) 1000 + cnt (within S mid hi) 1000 := cnt_or fun j hj => by
      unfold within
      by_cases h1 : (j : Int) < mid
      · have e1 : decide (lo ≤ (j : Int) ∧ (j : Int) < hi) = decide (lo ≤ (j : Int) ∧ (j : Int) < mid) := decide_eq_decide.2 ⟨fun h => by omega, fun h => by omega⟩
        rw [e1, decide_eq_false (show ¬ (mid ≤ (j : Int) ∧ (j : Int) < hi) by omega)]; simp
      · have e1 : decide (lo ≤ (j : Int) ∧ (j : Int) < hi) = decide (mid ≤ (j : Int) ∧ (j : Int) < hi) := decide_eq_decide.2 ⟨fun h => by omega, fun h => by omega⟩
        rw [e1, decide_eq_false (show ¬ (lo ≤ (j : Int) ∧ (j : Int) < mid) by omega)]; simp
    have call : cnt (within S (-5) 2000) 1000 = cnt S 1000 := cnt_congr fun j hj => by
      unfold within; rw [decide_eq_true (by omega)]; rfl
    have chl : cnt (within S hi lo) 1000 = 0 := cnt_none fun j hj => by
      unfold within; rw [decide_eq_false (by omega)]; rfl
    have cl1 := cnt_le (within S lo mid) 1000
    have cl2 := cnt_le (within S mid hi) 1000
    refine CallC_intro (Count_spec (imin (imin (rd a) (rd b)) (rd c)) (imax (imax (rd a) (rd b)) (rd c)) w3 hS (by rw [elo]; omega)) (fun v w4 ⟨hv, f4⟩ => ?_)
    rw [elo, ehi] at hv
    subst hv
    refine CallC_intro (Count_spec (imin (imin (rd a) (rd b)) (rd c)) (IntKind.i64.wrap (IntKind.i64.wrap (IntKind.i64.wrap (IntKind.i64.wrap (rd a + rd b) + rd c) - imin (imin (rd a) (rd b)) (rd c)) - imax (imax (rd a) (rd b)) (rd c))) w4 (hS.keep f4 id id) (by rw [elo]; omega)) (fun v w5 ⟨hv, f5⟩ => ?_)
    rw [emi, elo] at hv
    subst hv
    have f45 := f4.no f5
    refine CallC_intro (Count_spec (IntKind.i64.wrap (IntKind.i64.wrap (IntKind.i64.wrap (IntKind.i64.wrap (rd a + rd b) + rd c) - imin (imin (rd a) (rd b)) (rd c)) - imax (imax (rd a) (rd b)) (rd c))) (imax (imax (rd a) (rd b)) (rd c)) w5 (hS.keep f45 id id) (by rw [emi]; omega)) (fun v w6 ⟨hv, f6⟩ => ?_)
    rw [emi, ehi] at hv
    subst hv
    have f46 := f45.no f6
    refine Br_nf (show ((cnt (within S lo hi) (1000 : Int).toNat : Nat) : Int) = IntKind.i64.wrap (((cnt (within S lo mid) (1000 : Int).toNat : Nat) : Int) + ((cnt (within S mid hi) (1000 : Int).toNat : Nat) : Int)) by
      rw [show (1000 : Int).toNat = 1000 from rfl, wrap_i64 (by omega) (by omega), clh]; omega) ?_
    refine CallC_intro (Count_spec (-5) 2000 w6 (hS.keep f46 id id) (by omega)) (fun v w7 ⟨hv, f7⟩ => ?_)
    subst hv
    have f47 := f46.no f7
    refine Br_nf (show ((cnt (within S (-5) 2000) (1000 : Int).toNat : Nat) : Int) = n by rw [show (1000 : Int).toNat = 1000 from rfl, call, hn]) ?_
    refine CallC_intro (Count_spec (imax (imax (rd a) (rd b)) (rd c)) (imin (imin (rd a) (rd b)) (rd c)) w7 (hS.keep f47 id id) (by rw [ehi]; omega)) (fun v w8 ⟨hv, f8⟩ => ?_)
    rw [elo, ehi] at hv
    rw [show (1000 : Int).toNat = 1000 from rfl, chl] at hv
    subst hv
    have f48 := f47.no f8
    refine CallC_intro (List_spec w8 (hS.keep f48 id id) ((hT.keep f3 id).keep f48 id)) (fun v w9 ⟨o9, f9⟩ => ?_)
    have f49 := f48.no f9
    rw [show (1000 : Int).toNat = 1000 from rfl] at o9
    obtain ⟨av, cv, rfl, _⟩ := o9.ints
    refine CallC_intro (Next_spec 0 w9 (hS.keep f49 id id) ((hT.keep f3 id).keep f49 id)) (fun v w10 ⟨⟨z, hv, hz0⟩, f10⟩ => ?_)
    subst hv
    have hz0 : NextIs S 0 z := hz0
    have f410 := f49.no f10
    refine LoopC_intro (α := Int × Int) (fun q => [(9, .pointer (some ⟨p, 0, none⟩)), (11, .int .i64 n), (20, .slice av (elems S 1000).length cv), (21, .int .i64 q.1), (22, .int .i64 q.2)])
      (fun m q w11 => Fr No w9 w11 ∧ 0 ≤ q.2 ∧ (∃ t : Nat, ((elems S t).length : Int) = q.2 ∧ NextIs S t q.1 ∧ t ≤ 1000) ∧ m = ((elems S 1000).length - q.2).toNat)
      (((elems S 1000).length : Int) - 0 : Int).toNat (z, 0) ⟨rfl, rfl, rfl, rfl, rfl, trivial⟩ ⟨f10, Int.le_refl _, ⟨0, rfl, hz0, by omega⟩, rfl⟩ (fun m q w11 hJ => Kp ?_)
    obtain ⟨at_, j⟩ := q
    obtain ⟨f11, j0, ⟨t, ht, hN, ht1⟩, hm2⟩ := hJ
    have ht : ((elems S t).length : Int) = j := ht
    have hN : NextIs S t at_ := hN
    have hm2 : m = (((elems S 1000).length : Int) - j).toNat := hm2
    have hle := elems_le S 1000
    have hS11 := (hS.keep f49 id id).keep f11 id id
    have hT11 := ((hT.keep f3 id).keep f49 id).keep f11 id
    have hhi := hS.hi
    refine Br_dec (fun g4 => ?_) (fun g4 => ?_)
    · have g4 : j < ((elems S 1000).length : Int) := g4
      rcases hN with ⟨e, hno⟩ | ⟨u, rfl, u1, u2, u3⟩
      · exfalso
        have := elems_more (m := t) (n := 1000) ht1 (fun j h1 _ => hno j h1)
        rw [this] at g4; omega
      · have hu := hhi u u2
        have e1 : elems S (u + 1) = elems S t ++ [(u : Int)] := by simp only [elems]; rw [elems_more u1 u3, u2]; rfl
        obtain ⟨rest, hre⟩ := elems_prefix S (show u + 1 ≤ 1000 by omega)
        have hat : (elems S 1000)[j.toNat]? = some (u : Int) := by
          rw [hre, e1, List.append_assoc, List.getElem?_append_right (by omega)]
          rw [show j.toNat - (elems S t).length = 0 by omega]; rfl
        have hjl : j.toNat < (elems S 1000).length := by omega
        obtain ⟨x, rfl, hcx⟩ := (o9.ints.keep f11 (fun _ _ => id)).cell hjl
        have hav : (elems S 1000)[j.toNat] = (u : Int) := by rw [List.getElem?_eq_getElem hjl] at hat; injection hat
        rw [hav] at hcx
        refine Sd_intro (show 0 ≤ j ∧ j < ((elems S 1000).length : Int) by omega) ?_
        refine LdC_intro (v := .int .i64 (u : Int)) (by rw [Nat.mul_one]; exact hcx) ?_
        refine Br_nf rfl ?_
        refine CallC_intro (Has_spec (u : Int) w11 hS11) (fun v w12 ⟨hv, f12⟩ => ?_)
        have eh : has S (u : Int) = true := by unfold has; rw [decide_eq_true (by omega), Int.toNat_natCast, u2]; rfl
        rw [eh] at hv
        subst hv
        refine CallC_intro (Next_spec (IntKind.i64.wrap ((u : Int) + 1)) w12 (hS11.keep f12 id id) (hT11.keep f12 id)) (fun v w13 ⟨⟨z2, hv, hz2⟩, f13⟩ => ?_)
        subst hv
        rw [wrap_i64 (by omega) (by omega), show (max ((u : Int) + 1) 0).toNat = u + 1 by omega] at hz2
        refine ⟨(((elems S 1000).length : Int) - (j + 1)).toNat, _, by omega, ?_, (z2, j + 1), rfl, (f11.no f12).no f13, (show 0 ≤ j + 1 by omega), ⟨u + 1, ?_, hz2, by omega⟩, rfl⟩
        · exact ⟨rfl, rfl, rfl, rfl, look_int rfl (wrap_i64 (by omega) (by omega)), trivial⟩
        · show ((elems S (u + 1)).length : Int) = j + 1
          rw [e1, List.length_append, List.length_singleton]; omega
    · have g4 : ¬ j < ((elems S 1000).length : Int) := g4
      have hlt : j = ((elems S 1000).length : Int) := by
        obtain ⟨rest, hre⟩ := elems_prefix S ht1
        have := congrArg List.length hre
        rw [List.length_append] at this
        omega
      rcases hN with ⟨rfl, hno⟩ | ⟨u, rfl, u1, u2, u3⟩
      · refine ⟨?_, (f3.no f49).no f11⟩
        show Value.bool (decide (((elems S 1000).length : Int) = n)) = _
        rw [decide_eq_true (by rw [hn, elems_cnt])]
      · exfalso
        have hu := hhi u u2
        have e1 : elems S (u + 1) = elems S t ++ [(u : Int)] := by simp only [elems]; rw [elems_more u1 u3, u2]; rfl
        obtain ⟨rest, hre⟩ := elems_prefix S (show u + 1 ≤ 1000 by omega)
        have := congrArg List.length hre
        rw [e1, List.length_append, List.length_append, List.length_singleton] at this
        omega
theorem BitsApart_spec (ad : Option Addr) (len cap : Nat) (zs : List Int) (ad' : Option Addr) (len' cap' : Nat) (zs' : List Int) (w : World) (hT : Tab64 w) (hr : RowArg w .u16 ad len zs) (hz : ∀ z ∈ zs, 0 ≤ z ∧ z ≤ 65535) (hl : len ≤ 9223372036854775807)
    (hr' : RowArg w .u16 ad' len' zs') (hz' : ∀ z ∈ zs', 0 ≤ z ∧ z ≤ 65535) (hl' : len' ≤ 9223372036854775807) :
    CallC Pr f_gleanerlaw01_BitsApart [.slice ad len cap, .slice ad' len' cap'] w (fun v w' => v = .bool true ∧ Fr No w w') := by
  refine call_sound T_ok fun_gleanerlaw01_BitsApart rfl (by kernel_rfl) rfl (Kp ?_)
  refine CallC_intro (awake01_spec w hT) (fun v w1 ⟨hv, f1⟩ => ?_)
  subst hv
  refine CallC_intro (bits_New_spec 70000 w1 (by omega) (by omega)) (fun v w2 ⟨p, r, hv, hB, f2, hp, hrr⟩ => ?_)
  subst hv
  refine CallC_intro (bits_New_spec 70000 w2 (by omega) (by omega)) (fun v w3 ⟨p', r', hv, hB', f3, hp', hrr'⟩ => ?_)
  subst hv
  have hg := hT.lt
  have s1 := f1.size
  have s2 := f2.size
  have s3 := f3.size
  have hpl := hB.blt
  have hrl := hB.rlt
  have hpr := hB.ne
  have hpr' := hB'.ne
  have hpl' := hB'.blt
  have hrl' := hB'.rlt
  have f13 := (f1.no f2).no f3
  obtain ⟨M, hM⟩ : ∃ M : Nat, (70000 : Int).toNat = M := ⟨_, rfl⟩
  have hM2 : M = 70000 := by omega
  have word : ∀ z : Int, 0 ≤ z → z ≤ 65535 → IntKind.i64.wrap z = z := fun z h0 h1 => wrap_i64 (by omega) (by omega)
  refine LoopC_intro (α := Int) (fun i => [(0, .slice ad len cap), (1, .slice ad' len' cap'), (5, .pointer (some ⟨p, 0, none⟩)), (7, .pointer (some ⟨p', 0, none⟩)), (9, .int .i64 i)])
    (fun m i w4 => (∃ S, IsBits w4 p r 70000 S) ∧ IsBits w4 p' r' 70000 (fun _ => false) ∧ Fr No w w4 ∧ w3.heap.size ≤ w4.heap.size ∧ 0 ≤ i ∧ i ≤ len ∧ m = (len - i).toNat)
    (len - 0 : Int).toNat 0 ⟨rfl, rfl, rfl, rfl, rfl, trivial⟩ ⟨⟨_, hB.keep f3 id id⟩, hB', f13, Nat.le_refl _, Int.le_refl _, (show (0 : Int) ≤ len by omega), rfl⟩ (fun m i w4 hJ => Kp ?_)
  obtain ⟨⟨S, hS⟩, hS', f4, s4, i0, i1, hm⟩ := hJ
  have i0 : 0 ≤ i := i0
  have i1 : i ≤ len := i1
  refine Br_dec (fun g => ?_) (fun g => ?_)
  · have g : i < (len : Int) := g
    refine Br_dec (fun g1 => ?_) (fun g1 => ?_)
    · obtain ⟨x, z, rfl, hzi, hcell⟩ := rowAt (hr.keep f4) (show i.toNat < len by omega)
      have hzb := hz z (List.mem_of_getElem? hzi)
      refine Sd_intro (show 0 ≤ i ∧ i < (len : Int) by omega) ?_
      refine LdC_intro (v := .int .u16 z) (by rw [Nat.mul_one]; exact hcell) ?_
      refine CallC_intro (Put_spec (IntKind.i64.wrap z) w4 hS (by rw [word z hzb.1 hzb.2]; omega) (by rw [word z hzb.1 hzb.2]; omega)) (fun v w5 ⟨hv, h5, f5⟩ => ?_)
      have s5 := f5.size
      refine ⟨(len - (i + 1)).toNat, _, by omega, ?_, i + 1, rfl, ⟨_, h5⟩, hS'.keep f5 (by omega) (by omega), f4.new f5 (fun _ _ e => e) (fun k e => by omega), by omega, (show 0 ≤ i + 1 by omega), (show i + 1 ≤ (len : Int) by omega), rfl⟩
      exact ⟨rfl, rfl, rfl, rfl, look_int rfl (wrap_i64 (by omega) (by omega)), trivial⟩
    · refine CallC_intro (List_spec w4 hS (hT.keep f4 id)) (fun v1 w5 ⟨o5, f5⟩ => ?_)
      rw [hM] at o5
      have f05 := f4.no f5
      have s5 := f5.size
      refine LoopC_intro (α := Int) (fun j => [(1, .slice ad' len' cap'), (5, .pointer (some ⟨p, 0, none⟩)), (7, .pointer (some ⟨p', 0, none⟩)), (10, v1), (11, .int .i64 j)])
        (fun m j w6 => (∃ U, IsBits w6 p' r' 70000 U) ∧ Fr (· = r') w5 w6 ∧ 0 ≤ j ∧ j ≤ len' ∧ m = (len' - j).toNat)
        (len' - 0 : Int).toNat 0 ⟨rfl, rfl, rfl, rfl, rfl, trivial⟩ ⟨⟨_, hS'.keep f5 id id⟩, Fr.refl _ _, Int.le_refl _, (show (0 : Int) ≤ len' by omega), rfl⟩ (fun m j w6 hJ2 => Kp ?_)
      obtain ⟨⟨U, hU⟩, f6, j0, j1, hm2⟩ := hJ2
      have j0 : 0 ≤ j := j0
      have j1 : j ≤ len' := j1
      have f06 : Fr No w w6 := f05.new f6 (fun _ _ e => e) (fun k e => by omega)
      have s6 := f6.size
      refine Br_dec (fun g2 => ?_) (fun g2 => ?_)
      · have g2 : j < (len' : Int) := g2
        refine Br_dec (fun g3 => ?_) (fun g3 => ?_)
        · obtain ⟨x, z, rfl, hzi, hcell⟩ := rowAt (hr'.keep f06) (show j.toNat < len' by omega)
          have hzb := hz' z (List.mem_of_getElem? hzi)
          refine Sd_intro (show 0 ≤ j ∧ j < (len' : Int) by omega) ?_
          refine LdC_intro (v := .int .u16 z) (by rw [Nat.mul_one]; exact hcell) ?_
          refine CallC_intro (Put_spec (IntKind.i64.wrap z) w6 hU (by rw [word z hzb.1 hzb.2]; omega) (by rw [word z hzb.1 hzb.2]; omega)) (fun v w7 ⟨hv, h7, f7⟩ => ?_)
          refine ⟨(len' - (j + 1)).toNat, _, by omega, ?_, j + 1, rfl, ⟨_, h7⟩, f6.same f7, (show 0 ≤ j + 1 by omega), (show j + 1 ≤ (len' : Int) by omega), rfl⟩
          exact ⟨rfl, rfl, rfl, rfl, look_int rfl (wrap_i64 (by omega) (by omega)), trivial⟩
        · have hS6 := (hS.keep f5 id id).keep f6 (by omega) (by omega)
          have o6 := o5.keep f6 (fun k hk e => by omega)
          refine CallC_intro (List_spec w6 hS6 (hT.keep f06 id)) (fun v2 w7 ⟨o7, f7⟩ => ?_)
          rw [hM] at o7
          have f07 := f06.no f7
          have s7 := f7.size
          have start : (elems S M).length = 0 ∨ ∃ g cap2 cur, v2 = .slice (some ⟨g, 0, none⟩) (elems S M).length cap2 ∧ w6.heap.size ≤ g ∧ Blk w7 g t_int cur ∧ (elems S M).length ≤ cur.length := by
            rcases own_cases o7 with ⟨_, h0, _⟩ | ⟨g, cap2, cur, hv, hb, hblk, ht, hn⟩
            · exact .inl h0
            · refine .inr ⟨g, cap2, cur, hv, hb, hblk, ?_⟩
              have := congrArg List.length ht
              rw [List.length_take, ints_len] at this
              omega
          obtain ⟨a2, c2, rfl, _⟩ := o7.ints
          refine LoopC_intro (α := Int) (fun q => [(5, .pointer (some ⟨p, 0, none⟩)), (7, .pointer (some ⟨p', 0, none⟩)), (10, v1), (12, .slice a2 (elems S M).length c2), (13, .int .i64 q)])
            (fun m q w8 => Fr (fun k => w6.heap.size ≤ k) w7 w8 ∧ 0 ≤ q ∧ ((elems S M).length = 0 ∨ ∃ g cur, a2 = some ⟨g, 0, none⟩ ∧ w6.heap.size ≤ g ∧ Blk w8 g t_int cur ∧ (elems S M).length ≤ cur.length) ∧ m = ((elems S M).length - q).toNat)
            ((elems S M).length - 0 : Int).toNat 0 ⟨rfl, rfl, rfl, rfl, rfl, trivial⟩ ⟨Fr.refl _ _, Int.le_refl _, ?_, rfl⟩ (fun m q w8 hJ3 => Kp ?_)
          · rcases start with h0 | ⟨g, cap2, cur, hv, h1, h2, h3⟩
            · exact .inl h0
            · injection hv with e1 e2 e3
              exact .inr ⟨g, cur, e1, h1, h2, h3⟩
          · clear start
            obtain ⟨f8, q0, hcur, hm3⟩ := hJ3
            have q0 : 0 ≤ q := q0
            have hle := elems_le S M
            refine Br_dec (fun g4 => ?_) (fun g4 => ?_)
            · have g4 : q < ((elems S M).length : Int) := g4
              rcases hcur with h0 | ⟨g, cur, rfl, h1, h2, h3⟩
              · omega
              · refine Sd_intro (show 0 ≤ q ∧ q < ((elems S M).length : Int) by omega) ?_
                have hq : q.toNat < cur.length := by omega
                refine StC_idx h2 rfl (u := cur[q.toNat]) (by rw [Nat.zero_add, Nat.mul_one]; exact List.getElem?_eq_getElem hq) (fun w9 h9 f9 _ => ?_)
                refine ⟨((elems S M).length - (q + 1)).toNat, _, by omega, ?_, q + 1, rfl, f8.trans f9 (fun _ _ e => e) (fun k _ e => by have e : k = g := e; show w6.heap.size ≤ k; omega), (show 0 ≤ q + 1 by omega), .inr ⟨g, _, rfl, h1, h9, by rw [List.length_set]; exact h3⟩, rfl⟩
                exact ⟨rfl, rfl, rfl, rfl, look_int rfl (wrap_i64 (by omega) (by omega)), trivial⟩
            · have f68 : Fr No w6 w8 := f7.new f8 (fun _ _ e => e) (fun k e => e)
              have f08 := f06.no f68
              have hS8 := hS6.keep f68 id id
              have hU8 := hU.keep f68 id id
              refine CallC_intro (List_spec w8 hS8 (hT.keep f08 id)) (fun v3 w9 ⟨o9, f9⟩ => ?_)
              rw [hM] at o9
              have o1 : Ints w8 v1 (elems S M) := o6.ints.keep f68 (fun k hk => id)
              refine CallC_intro (Same_spec v1 v3 _ _ w9 (o1.keep f9 (fun _ _ => id)) o9.ints (show ((elems S M).length : Int) ≤ 4611686018427387904 by omega)) (fun v w10 ⟨hv, f10⟩ => ?_)
              rw [decide_eq_true rfl] at hv
              subst hv
              have f810 := f9.no f10
              refine CallC_intro (Count_spec 0 70000 w10 (hU8.keep f810 id id) (by omega)) (fun v w11 ⟨hv, f11⟩ => ?_)
              rw [hM] at hv
              subst hv
              have f811 := f810.no f11
              refine CallC_intro (List_spec w11 (hU8.keep f811 id id) ((hT.keep f08 id).keep f811 id)) (fun v4 w12 ⟨o12, f12⟩ => ?_)
              rw [hM] at o12
              obtain ⟨a4, c4, rfl, _⟩ := o12.ints
              refine ⟨?_, f08.no (f811.no f12)⟩
              show Value.bool (decide (((cnt (within U 0 70000) M : Nat) : Int) = ((elems U M).length : Int))) = _
              rw [decide_eq_true]
              rw [elems_cnt]
              exact congrArg (fun n : Nat => (n : Int)) (cnt_congr fun j hj => by unfold within; rw [decide_eq_true (show (0 : Int) ≤ (j : Int) ∧ (j : Int) < 70000 by omega)]; rfl)
      · have hS6 := (hS.keep f5 id id).keep f6 (by omega) (by omega)
        have o6 := o5.keep f6 (fun k hk e => by omega)
        refine CallC_intro (List_spec w6 hS6 (hT.keep f06 id)) (fun v2 w7 ⟨o7, f7⟩ => ?_)
        rw [hM] at o7
        have f07 := f06.no f7
        have s7 := f7.size
        have start : (elems S M).length = 0 ∨ ∃ g cap2 cur, v2 = .slice (some ⟨g, 0, none⟩) (elems S M).length cap2 ∧ w6.heap.size ≤ g ∧ Blk w7 g t_int cur ∧ (elems S M).length ≤ cur.length := by
          rcases own_cases o7 with ⟨_, h0, _⟩ | ⟨g, cap2, cur, hv, hb, hblk, ht, hn⟩
          · exact .inl h0
          · refine .inr ⟨g, cap2, cur, hv, hb, hblk, ?_⟩
            have := congrArg List.length ht
            rw [List.length_take, ints_len] at this
            omega
        obtain ⟨a2, c2, rfl, _⟩ := o7.ints
        refine LoopC_intro (α := Int) (fun q => [(5, .pointer (some ⟨p, 0, none⟩)), (7, .pointer (some ⟨p', 0, none⟩)), (10, v1), (12, .slice a2 (elems S M).length c2), (13, .int .i64 q)])
          (fun m q w8 => Fr (fun k => w6.heap.size ≤ k) w7 w8 ∧ 0 ≤ q ∧ ((elems S M).length = 0 ∨ ∃ g cur, a2 = some ⟨g, 0, none⟩ ∧ w6.heap.size ≤ g ∧ Blk w8 g t_int cur ∧ (elems S M).length ≤ cur.length) ∧ m = ((elems S M).length - q).toNat)
          ((elems S M).length - 0 : Int).toNat 0 ⟨rfl, rfl, rfl, rfl, rfl, trivial⟩ ⟨Fr.refl _ _, Int.le_refl _, ?_, rfl⟩ (fun m q w8 hJ3 => Kp ?_)
        · rcases start with h0 | ⟨g, cap2, cur, hv, h1, h2, h3⟩
          · exact .inl h0
          · injection hv with e1 e2 e3
            exact .inr ⟨g, cur, e1, h1, h2, h3⟩
        · clear start
          obtain ⟨f8, q0, hcur, hm3⟩ := hJ3
          have q0 : 0 ≤ q := q0
          have hle := elems_le S M
          refine Br_dec (fun g4 => ?_) (fun g4 => ?_)
          · have g4 : q < ((elems S M).length : Int) := g4
            rcases hcur with h0 | ⟨g, cur, rfl, h1, h2, h3⟩
            · omega
            · refine Sd_intro (show 0 ≤ q ∧ q < ((elems S M).length : Int) by omega) ?_
              have hq : q.toNat < cur.length := by omega
              refine StC_idx h2 rfl (u := cur[q.toNat]) (by rw [Nat.zero_add, Nat.mul_one]; exact List.getElem?_eq_getElem hq) (fun w9 h9 f9 _ => ?_)
              refine ⟨((elems S M).length - (q + 1)).toNat, _, by omega, ?_, q + 1, rfl, f8.trans f9 (fun _ _ e => e) (fun k _ e => by have e : k = g := e; show w6.heap.size ≤ k; omega), (show 0 ≤ q + 1 by omega), .inr ⟨g, _, rfl, h1, h9, by rw [List.length_set]; exact h3⟩, rfl⟩
              exact ⟨rfl, rfl, rfl, rfl, look_int rfl (wrap_i64 (by omega) (by omega)), trivial⟩
          · have f68 : Fr No w6 w8 := f7.new f8 (fun _ _ e => e) (fun k e => e)
            have f08 := f06.no f68
            have hS8 := hS6.keep f68 id id
            have hU8 := hU.keep f68 id id
            refine CallC_intro (List_spec w8 hS8 (hT.keep f08 id)) (fun v3 w9 ⟨o9, f9⟩ => ?_)
            rw [hM] at o9
            have o1 : Ints w8 v1 (elems S M) := o6.ints.keep f68 (fun k hk => id)
            refine CallC_intro (Same_spec v1 v3 _ _ w9 (o1.keep f9 (fun _ _ => id)) o9.ints (show ((elems S M).length : Int) ≤ 4611686018427387904 by omega)) (fun v w10 ⟨hv, f10⟩ => ?_)
            rw [decide_eq_true rfl] at hv
            subst hv
            have f810 := f9.no f10
            refine CallC_intro (Count_spec 0 70000 w10 (hU8.keep f810 id id) (by omega)) (fun v w11 ⟨hv, f11⟩ => ?_)
            rw [hM] at hv
            subst hv
            have f811 := f810.no f11
            refine CallC_intro (List_spec w11 (hU8.keep f811 id id) ((hT.keep f08 id).keep f811 id)) (fun v4 w12 ⟨o12, f12⟩ => ?_)
            rw [hM] at o12
            obtain ⟨a4, c4, rfl, _⟩ := o12.ints
            refine ⟨?_, f08.no (f811.no f12)⟩
            show Value.bool (decide (((cnt (within U 0 70000) M : Nat) : Int) = ((elems U M).length : Int))) = _
            rw [decide_eq_true]
            rw [elems_cnt]
            exact congrArg (fun n : Nat => (n : Int)) (cnt_congr fun j hj => by unfold within; rw [decide_eq_true (show (0 : Int) ≤ (j : Int) ∧ (j : Int) < 70000 by omega)]; rfl)
  · refine CallC_intro (List_spec w4 hS (hT.keep f4 id)) (fun v1 w5 ⟨o5, f5⟩ => ?_)
    rw [hM] at o5
    have f05 := f4.no f5
    have s5 := f5.size
    refine LoopC_intro (α := Int) (fun j => [(1, .slice ad' len' cap'), (5, .pointer (some ⟨p, 0, none⟩)), (7, .pointer (some ⟨p', 0, none⟩)), (10, v1), (11, .int .i64 j)])
      (fun m j w6 => (∃ U, IsBits w6 p' r' 70000 U) ∧ Fr (· = r') w5 w6 ∧ 0 ≤ j ∧ j ≤ len' ∧ m = (len' - j).toNat)
      (len' - 0 : Int).toNat 0 ⟨rfl, rfl, rfl, rfl, rfl, trivial⟩ ⟨⟨_, hS'.keep f5 id id⟩, Fr.refl _ _, Int.le_refl _, (show (0 : Int) ≤ len' by omega), rfl⟩ (fun m j w6 hJ2 => Kp ?_)
    obtain ⟨⟨U, hU⟩, f6, j0, j1, hm2⟩ := hJ2
    have j0 : 0 ≤ j := j0
    have j1 : j ≤ len' := j1
    have f06 : Fr No w w6 := f05.new f6 (fun _ _ e => e) (fun k e => by omega)
    have s6 := f6.size
    refine Br_dec (fun g2 => ?_) (fun g2 => ?_)
    · have g2 : j < (len' : Int) := g2
      refine Br_dec (fun g3 => ?_) (fun g3 => ?_)
      · obtain ⟨x, z, rfl, hzi, hcell⟩ := rowAt (hr'.keep f06) (show j.toNat < len' by omega)
        have hzb := hz' z (List.mem_of_getElem? hzi)
        refine Sd_intro (show 0 ≤ j ∧ j < (len' : Int) by omega) ?_
        refine LdC_intro (v := .int .u16 z) (by rw [Nat.mul_one]; exact hcell) ?_
        refine CallC_intro (Put_spec (IntKind.i64.wrap z) w6 hU (by rw [word z hzb.1 hzb.2]; omega) (by rw [word z hzb.1 hzb.2]; omega)) (fun v w7 ⟨hv, h7, f7⟩ => ?_)
        refine ⟨(len' - (j + 1)).toNat, _, by omega, ?_, j + 1, rfl, ⟨_, h7⟩, f6.same f7, (show 0 ≤ j + 1 by omega), (show j + 1 ≤ (len' : Int) by omega), rfl⟩
        exact ⟨rfl, rfl, rfl, rfl, look_int rfl (wrap_i64 (by omega) (by omega)), trivial⟩
      · have hS6 := (hS.keep f5 id id).keep f6 (by omega) (by omega)
        have o6 := o5.keep f6 (fun k hk e => by omega)
        refine CallC_intro (List_spec w6 hS6 (hT.keep f06 id)) (fun v2 w7 ⟨o7, f7⟩ => ?_)
        rw [hM] at o7
        have f07 := f06.no f7
        have s7 := f7.size
        have start : (elems S M).length = 0 ∨ ∃ g cap2 cur, v2 = .slice (some ⟨g, 0, none⟩) (elems S M).length cap2 ∧ w6.heap.size ≤ g ∧ Blk w7 g t_int cur ∧ (elems S M).length ≤ cur.length := by
          rcases own_cases o7 with ⟨_, h0, _⟩ | ⟨g, cap2, cur, hv, hb, hblk, ht, hn⟩
          · exact .inl h0
          · refine .inr ⟨g, cap2, cur, hv, hb, hblk, ?_⟩
            have := congrArg List.length ht
            rw [List.length_take, ints_len] at this
            omega
        obtain ⟨a2, c2, rfl, _⟩ := o7.ints
        refine LoopC_intro (α := Int) (fun q => [(5, .pointer (some ⟨p, 0, none⟩)), (7, .pointer (some ⟨p', 0, none⟩)), (10, v1), (12, .slice a2 (elems S M).length c2), (13, .int .i64 q)])
          (fun m q w8 => Fr (fun k => w6.heap.size ≤ k) w7 w8 ∧ 0 ≤ q ∧ ((elems S M).length = 0 ∨ ∃ g cur, a2 = some ⟨g, 0, none⟩ ∧ w6.heap.size ≤ g ∧ Blk w8 g t_int cur ∧ (elems S M).length ≤ cur.length) ∧ m = ((elems S M).length - q).toNat)
          ((elems S M).length - 0 : Int).toNat 0 ⟨rfl, rfl, rfl, rfl, rfl, trivial⟩ ⟨Fr.refl _ _, Int.le_refl _, ?_, rfl⟩ (fun m q w8 hJ3 => Kp ?_)
        · rcases start with h0 | ⟨g, cap2, cur, hv, h1, h2, h3⟩
          · exact .inl h0
          · injection hv with e1 e2 e3
            exact .inr ⟨g, cur, e1, h1, h2, h3⟩
        · clear start
          obtain ⟨f8, q0, hcur, hm3⟩ := hJ3
          have q0 : 0 ≤ q := q0
          have hle := elems_le S M
          refine Br_dec (fun g4 => ?_) (fun g4 => ?_)
          · have g4 : q < ((elems S M).length : Int) := g4
            rcases hcur with h0 | ⟨g, cur, rfl, h1, h2, h3⟩
            · omega
            · refine Sd_intro (show 0 ≤ q ∧ q < ((elems S M).length : Int) by omega) ?_
              have hq : q.toNat < cur.length := by omega
              refine StC_idx h2 rfl (u := cur[q.toNat]) (by rw [Nat.zero_add, Nat.mul_one]; exact List.getElem?_eq_getElem hq) (fun w9 h9 f9 _ => ?_)
              refine ⟨((elems S M).length - (q + 1)).toNat, _, by omega, ?_, q + 1, rfl, f8.trans f9 (fun _ _ e => e) (fun k _ e => by have e : k = g := e; show w6.heap.size ≤ k; omega), (show 0 ≤ q + 1 by omega), .inr ⟨g, _, rfl, h1, h9, by rw [List.length_set]; exact h3⟩, rfl⟩
              exact ⟨rfl, rfl, rfl, rfl, look_int rfl (wrap_i64 (by omega) (by omega)), trivial⟩
          · have f68 : Fr No w6 w8 := f7.new f8 (fun _ _ e => e) (fun k e => e)
            have f08 := f06.no f68
            have hS8 := hS6.keep f68 id id
            have hU8 := hU.keep f68 id id
            refine CallC_intro (List_spec w8 hS8 (hT.keep f08 id)) (fun v3 w9 ⟨o9, f9⟩ => ?_)
            rw [hM] at o9
            have o1 : Ints w8 v1 (elems S M) := o6.ints.keep f68 (fun k hk => id)
            refine CallC_intro (Same_spec v1 v3 _ _ w9 (o1.keep f9 (fun _ _ => id)) o9.ints (show ((elems S M).length : Int) ≤ 4611686018427387904 by omega)) (fun v w10 ⟨hv, f10⟩ => ?_)
            rw [decide_eq_true rfl] at hv
            subst hv
            have f810 := f9.no f10
            refine CallC_intro (Count_spec 0 70000 w10 (hU8.keep f810 id id) (by omega)) (fun v w11 ⟨hv, f11⟩ => ?_)
            rw [hM] at hv
            subst hv
            have f811 := f810.no f11
            refine CallC_intro (List_spec w11 (hU8.keep f811 id id) ((hT.keep f08 id).keep f811 id)) (fun v4 w12 ⟨o12, f12⟩ => ?_)
            rw [hM] at o12
            obtain ⟨a4, c4, rfl, _⟩ := o12.ints
            refine ⟨?_, f08.no (f811.no f12)⟩
            show Value.bool (decide (((cnt (within U 0 70000) M : Nat) : Int) = ((elems U M).length : Int))) = _
            rw [decide_eq_true]
            rw [elems_cnt]
            exact congrArg (fun n : Nat => (n : Int)) (cnt_congr fun j hj => by unfold within; rw [decide_eq_true (show (0 : Int) ≤ (j : Int) ∧ (j : Int) < 70000 by omega)]; rfl)
    · have hS6 := (hS.keep f5 id id).keep f6 (by omega) (by omega)
      have o6 := o5.keep f6 (fun k hk e => by omega)
      refine CallC_intro (List_spec w6 hS6 (hT.keep f06 id)) (fun v2 w7 ⟨o7, f7⟩ => ?_)
      rw [hM] at o7
      have f07 := f06.no f7
      have s7 := f7.size
      have start : (elems S M).length = 0 ∨ ∃ g cap2 cur, v2 = .slice (some ⟨g, 0, none⟩) (elems S M).length cap2 ∧ w6.heap.size ≤ g ∧ Blk w7 g t_int cur ∧ (elems S M).length ≤ cur.length := by
        rcases own_cases o7 with ⟨_, h0, _⟩ | ⟨g, cap2, cur, hv, hb, hblk, ht, hn⟩
        · exact .inl h0
        · refine .inr ⟨g, cap2, cur, hv, hb, hblk, ?_⟩
          have := congrArg List.length ht
          rw [List.length_take, ints_len] at this
          omega
      obtain ⟨a2, c2, rfl, _⟩ := o7.ints
      refine LoopC_intro (α := Int) (fun q => [(5, .pointer (some ⟨p, 0, none⟩)), (7, .pointer (some ⟨p', 0, none⟩)), (10, v1), (12, .slice a2 (elems S M).length c2), (13, .int .i64 q)])
        (fun m q w8 => Fr (fun k => w6.heap.size ≤ k) w7 w8 ∧ 0 ≤ q ∧ ((elems S M).length = 0 ∨ ∃ g cur, a2 = some ⟨g, 0, none⟩ ∧ w6.heap.size ≤ g ∧ Blk w8 g t_int cur ∧ (elems S M).length ≤ cur.length) ∧ m = ((elems S M).length - q).toNat)
        ((elems S M).length - 0 : Int).toNat 0 ⟨rfl, rfl, rfl, rfl, rfl, trivial⟩ ⟨Fr.refl _ _, Int.le_refl _, ?_, rfl⟩ (fun m q w8 hJ3 => Kp ?_)
      · rcases start with h0 | ⟨g, cap2, cur, hv, h1, h2, h3⟩
        · exact .inl h0
        · injection hv with e1 e2 e3
          exact .inr ⟨g, cur, e1, h1, h2, h3⟩
      · clear start
        obtain ⟨f8, q0, hcur, hm3⟩ := hJ3
        have q0 : 0 ≤ q := q0
        have hle := elems_le S M
        refine Br_dec (fun g4 => ?_) (fun g4 => ?_)
        · have g4 : q < ((elems S M).length : Int) := g4
          rcases hcur with h0 | ⟨g, cur, rfl, h1, h2, h3⟩
          · omega
          · refine Sd_intro (show 0 ≤ q ∧ q < ((elems S M).length : Int) by omega) ?_
            have hq : q.toNat < cur.length := by omega
            refine StC_idx h2 rfl (u := cur[q.toNat]) (by rw [Nat.zero_add, Nat.mul_one]; exact List.getElem?_eq_getElem hq) (fun w9 h9 f9 _ => ?_)
            refine ⟨((elems S M).length - (q + 1)).toNat, _, by omega, ?_, q + 1, rfl, f8.trans f9 (fun _ _ e => e) (fun k _ e => by have e : k = g := e; show w6.heap.size ≤ k; omega), (show 0 ≤ q + 1 by omega), .inr ⟨g, _, rfl, h1, h9, by rw [List.length_set]; exact h3⟩, rfl⟩
            exact ⟨rfl, rfl, rfl, rfl, look_int rfl (wrap_i64 (by omega) (by omega)), trivial⟩
        · have f68 : Fr No w6 w8 := f7.new f8 (fun _ _ e => e) (fun k e => e)
          have f08 := f06.no f68
          have hS8 := hS6.keep f68 id id
          have hU8 := hU.keep f68 id id
          refine CallC_intro (List_spec w8 hS8 (hT.keep f08 id)) (fun v3 w9 ⟨o9, f9⟩ => ?_)
          rw [hM] at o9
          have o1 : Ints w8 v1 (elems S M) := o6.ints.keep f68 (fun k hk => id)
          refine CallC_intro (Same_spec v1 v3 _ _ w9 (o1.keep f9 (fun _ _ => id)) o9.ints (show ((elems S M).length : Int) ≤ 4611686018427387904 by omega)) (fun v w10 ⟨hv, f10⟩ => ?_)
          rw [decide_eq_true rfl] at hv
          subst hv
          have f810 := f9.no f10
          refine CallC_intro (Count_spec 0 70000 w10 (hU8.keep f810 id id) (by omega)) (fun v w11 ⟨hv, f11⟩ => ?_)
          rw [hM] at hv
          subst hv
          have f811 := f810.no f11
          refine CallC_intro (List_spec w11 (hU8.keep f811 id id) ((hT.keep f08 id).keep f811 id)) (fun v4 w12 ⟨o12, f12⟩ => ?_)
          rw [hM] at o12
          obtain ⟨a4, c4, rfl, _⟩ := o12.ints
          refine ⟨?_, f08.no (f811.no f12)⟩
          show Value.bool (decide (((cnt (within U 0 70000) M : Nat) : Int) = ((elems U M).length : Int))) = _
          rw [decide_eq_true]
          rw [elems_cnt]
          exact congrArg (fun n : Nat => (n : Int)) (cnt_congr fun j hj => by unfold within; rw [decide_eq_true (show (0 : Int) ≤ (j : Int) ∧ (j : Int) < 70000 by omega)]; rfl)
end Go.Proofs.YtilhoimokegpjaaDoor
