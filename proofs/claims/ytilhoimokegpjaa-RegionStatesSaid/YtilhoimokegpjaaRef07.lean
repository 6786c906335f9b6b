/- The document's table of regions (gleanerref07): its calls return and keep the table's form. -/
import Derived.Test.YtilhoimokegpjaaVcL
namespace Go.Proofs.Ytilhoimokegpjaa
open Go.Vc

/-- Whole numbers in the first cells. -/
def Nums (cs : List Value) (m : Nat) : Prop := ∀ j, j < m → ∃ z : Int, cs[j]? = some (.int .i64 z)
theorem Nums.set {cs : List Value} {m : Nat} (h : Nums cs m) (k : Nat) (z : Int) : Nums (cs.set k (.int .i64 z)) m := by
  intro j hj
  obtain ⟨y, hy⟩ := h j hj
  rw [List.getElem?_set]
  by_cases e : k = j
  · subst e
    have := (List.getElem?_eq_some_iff.1 hy).1
    rw [if_pos rfl, if_pos this]; exact ⟨z, rfl⟩
  · rw [if_neg e]; exact ⟨y, hy⟩
/-- N regions of 64 words, their numbers whatever they are. -/
def Is7 (w : World) (b r N : Nat) : Prop := ∃ (cap : Nat) (cs : List Value), Nums cs (3 * N) ∧ Blk w r t_gleanerref07_One cs ∧ Blk w b t_gleanerref07_Table [.int .i64 64, .slice (some ⟨r, 0, none⟩) N cap] ∧ N ≤ 65536
theorem Is7.keep {w w' : World} {b r N : Nat} {F : Nat → Prop} (h : Is7 w b r N) (f : Fr F w w') (hb : ¬ F b) (hr : ¬ F r) : Is7 w' b r N := by
  obtain ⟨cap, zs, h1, h2, h3, h4⟩ := h
  exact ⟨cap, zs, h1, h2.keep f hr, h3.keep f hb, h4⟩
theorem one_tab {w : World} {b r : Nat} {cs ds : List Value} (h2 : Blk w r t_gleanerref07_One cs) (h3 : Blk w b t_gleanerref07_Table ds) : b ≠ r := by
  rintro rfl
  have := (h2.inj h3).2
  cases this
theorem Is7.set {w w' : World} {b r N cap : Nat} {cs : List Value} (k : Nat) (z : Int) (h1 : Nums cs (3 * N)) (h3 : Blk w b t_gleanerref07_Table [.int .i64 64, .slice (some ⟨r, 0, none⟩) N cap]) (h4 : N ≤ 65536) (h2 : Blk w' r t_gleanerref07_One (cs.set k (.int .i64 z))) (f : Fr (· = r) w w') (hne : b ≠ r) : Is7 w' b r N :=
  ⟨cap, _, h1.set k z, h2, h3.keep f hne, h4⟩
theorem plain7_spec (s : Int) (w : World) : CallC Pr f_gleanerref07_plain [.int .i64 s] w (fun v w' => (∃ a, v = .bool a) ∧ Fr No w w') := by
  refine call_sound T_ok fun_gleanerref07_plain rfl (by kernel_rfl) rfl (Kp ?_)
  refine Br_dec (fun g => ?_) (fun g => ?_)
  · exact ⟨⟨true, rfl⟩, Fr.refl _ _⟩
  · refine Br_dec (fun g1 => ?_) (fun g1 => ?_)
    · exact ⟨⟨true, rfl⟩, Fr.refl _ _⟩
    · exact ⟨⟨_, rfl⟩, Fr.refl _ _⟩
section
variable {b r N : Nat}
theorem there7_spec (i : Int) (w : World) (h : Is7 w b r N) : CallC Pr f_gleanerref07_Table_there [.pointer (some ⟨b, 0, none⟩), .int .i64 i] w (fun v w' => v = .bool (decide (0 ≤ i ∧ i < N)) ∧ Fr No w w') := by
  obtain ⟨cap, zs, h1, h2, h3, h4⟩ := h
  refine call_sound T_ok fun_gleanerref07_Table_there rfl (by kernel_rfl) rfl (Kp ?_)
  refine Br_dec (fun g => ?_) (fun g => ?_)
  · have g : i ≥ 0 := g
    refine LdC_blk h3 rfl ?_
    refine ⟨?_, Fr.refl _ _⟩
    show Value.bool (decide (i < (N : Int))) = _
    congr 1
    exact decide_eq_decide.2 ⟨fun h => by omega, fun h => by omega⟩
  · have g : ¬ i ≥ 0 := g
    exact ⟨by rw [decide_eq_false (by omega)]; rfl, Fr.refl _ _⟩
abbrev Two (v : Value) : Prop := ∃ a e : Int, v = .tuple #[.int .i64 a, .int .i64 e]
abbrev One7 (v : Value) : Prop := ∃ e : Int, v = .int .i64 e
theorem No.any {w w' : World} {F : Nat → Prop} (f : Fr No w w') : Fr F w w' := f.weak (fun _ _ e => e.elim)
theorem Claim7_spec (s : Int) (w : World) (h : Is7 w b r N) : CallC Pr f_gleanerref07_Table_Claim [.pointer (some ⟨b, 0, none⟩), .int .i64 s] w (fun v w' => Two v ∧ Is7 w' b r N ∧ Fr (· = r) w w') := by
  refine call_sound T_ok fun_gleanerref07_Table_Claim rfl (by kernel_rfl) rfl (Kp ?_)
  refine CallC_intro (plain7_spec s w) (fun v w1 ⟨⟨a, hv⟩, f1⟩ => ?_)
  subst hv
  have h := h.keep f1 id id
  cases a with
  | false => exact ⟨⟨_, _, rfl⟩, h, No.any f1⟩
  | true =>
    refine LoopC_intro (α := Int) (fun k => [(0, .pointer (some ⟨b, 0, none⟩)), (1, .int .i64 s), (6, .int .i64 k)]) (fun m k w2 => Is7 w2 b r N ∧ Fr No w w2 ∧ 0 ≤ k ∧ k ≤ N ∧ m = (N - k).toNat)
      (N - 0 : Int).toNat 0 ⟨rfl, rfl, rfl, trivial⟩ ⟨h, f1, Int.le_refl _, (show (0 : Int) ≤ N by omega), rfl⟩ (fun m k w2 hJ => Kp ?_)
    obtain ⟨⟨cap, zs, h1, h2, h3, h4⟩, f2, k0, k1, hm⟩ := hJ
    have k0 : 0 ≤ k := k0
    have k1 : k ≤ N := k1
    have hne := one_tab h2 h3
    refine LdC_blk h3 rfl ?_
    refine Br_dec (fun g => ?_) (fun g => ?_)
    · have g : k < (N : Int) := g
      obtain ⟨z, hz⟩ := h1 (0 + k.toNat * 3) (by omega)
      refine LdC_blk h3 rfl ?_
      refine Sd_intro (show 0 ≤ k ∧ k < (N : Int) by omega) ?_
      refine LdC_idx h2 hz ?_
      refine Br_dec (fun g1 => ?_) (fun g1 => ?_)
      · refine LdC_blk h3 rfl ?_
        refine Sd_intro (show 0 ≤ k ∧ k < (N : Int) by omega) ?_
        refine StC_idx h2 rfl hz (fun w3 h5 f3 _ => ?_)
        exact ⟨⟨_, _, rfl⟩, Is7.set _ _ h1 h3 h4 h5 f3 hne, (No.any f2 : Fr (· = r) w w2).same f3⟩
      · refine ⟨(N - (k + 1)).toNat, _, by omega, ?_, k + 1, rfl, ⟨cap, zs, h1, h2, h3, h4⟩, f2, (show 0 ≤ k + 1 by omega), (show k + 1 ≤ (N : Int) by omega), rfl⟩
        exact ⟨rfl, rfl, look_int rfl (wrap_i64 (by omega) (by omega)), trivial⟩
    · exact ⟨⟨_, _, rfl⟩, ⟨cap, zs, h1, h2, h3, h4⟩, No.any f2⟩
set_option maxHeartbeats 1000000 in
theorem Run7_spec (n size : Int) (w : World) (h : Is7 w b r N) (hs : size ≤ 9223372036854775807) (hn : -9223372036854775808 ≤ n ∧ n ≤ 9223372036854775807) :
    CallC Pr f_gleanerref07_Table_Run [.pointer (some ⟨b, 0, none⟩), .int .i64 n, .int .i64 size] w (fun v w' => Two v ∧ Is7 w' b r N ∧ Fr (· = r) w w') := by
  refine call_sound T_ok fun_gleanerref07_Table_Run rfl (by kernel_rfl) rfl (Kp ?_)
  refine Br_dec (fun g0 => ?_) (fun g0 => ?_)
  · exact ⟨⟨_, _, rfl⟩, h, Fr.refl _ _⟩
  have g0 : ¬ n < 1 := g0
  refine Br_dec (fun g1 => ?_) (fun g1 => ?_)
  · exact ⟨⟨_, _, rfl⟩, h, Fr.refl _ _⟩
  have g1 : ¬ size < 1 := g1
  obtain ⟨cap, zs, h1, h2, h3, h4⟩ := h
  refine LdC_blk h3 rfl ?_
  refine Sd_intro (show (64 : Int) ≠ 0 by decide) ?_
  have e1 : IntKind.i64.wrap (Int.tdiv (IntKind.i64.wrap (size - 1)) 64) = (size - 1) / 64 := by
    rw [wrap_i64 (n := size - 1) (by omega) (by omega), tdiv_eq (by omega), wrap_i64 (by omega) (by omega)]
  have e2 : IntKind.i64.wrap (n - 1) = n - 1 := wrap_i64 (by omega) (by omega)
  refine Br_ndec (fun g2 => ?_) (fun g2 => ?_)
  · exact ⟨⟨_, _, rfl⟩, ⟨cap, zs, h1, h2, h3, h4⟩, Fr.refl _ _⟩
  have g2 : IntKind.i64.wrap (Int.tdiv (IntKind.i64.wrap (size - 1)) 64) = IntKind.i64.wrap (n - 1) := g2
  rw [e1, e2] at g2
  refine LoopC_intro (α := Int) (fun k => [(0, .pointer (some ⟨b, 0, none⟩)), (1, .int .i64 n), (2, .int .i64 size), (8, .int .i64 k)]) (fun m k w2 => Is7 w2 b r N ∧ Fr No w w2 ∧ 0 ≤ k ∧ k ≤ N ∧ m = (N + 1 - k).toNat)
    (N + 1 - 0 : Int).toNat 0 ⟨rfl, rfl, rfl, rfl, trivial⟩ ⟨⟨cap, zs, h1, h2, h3, h4⟩, Fr.refl _ _, Int.le_refl _, (show (0 : Int) ≤ N by omega), rfl⟩ (fun m k w2 hJ => Kp ?_)
  clear h2 h3 h1 zs cap
  obtain ⟨⟨cap, zs, h1, h2, h3, h4⟩, f2, k0, k1, hm⟩ := hJ
  have k0 : 0 ≤ k := k0
  have k1 : k ≤ N := k1
  have ekn : IntKind.i64.wrap (k + n) = k + n := wrap_i64 (by omega) (by omega)
  refine LdC_blk h3 rfl ?_
  refine Br_dec (fun g => ?_) (fun g => ?_)
  · have g : IntKind.i64.wrap (k + n) ≤ (N : Int) := g
    rw [ekn] at g
    refine LoopC_intro (α := Bool × Int) (fun q => [(0, .pointer (some ⟨b, 0, none⟩)), (1, .int .i64 n), (2, .int .i64 size), (8, .int .i64 k), (9, .bool q.1), (10, .int .i64 q.2)]) (fun m q w3 => Is7 w3 b r N ∧ Fr No w w3 ∧ k ≤ q.2 ∧ q.2 ≤ k + n ∧ m = (k + n - q.2).toNat)
      (k + n - k : Int).toNat (true, k) ⟨rfl, rfl, rfl, rfl, rfl, rfl, trivial⟩ ⟨⟨cap, zs, h1, h2, h3, h4⟩, f2, Int.le_refl _, (show k ≤ k + n by omega), rfl⟩ (fun m2 q w3 hJ2 => Kp ?_)
    clear h2 h3 h1 zs cap
    obtain ⟨fr, j⟩ := q
    obtain ⟨⟨cap, zs, h1, h2, h3, h4⟩, f3, j0, j1, hm2⟩ := hJ2
    have j0 : k ≤ j := j0
    have j1 : j ≤ k + n := j1
    have hm2 : m2 = (k + n - j).toNat := hm2
    refine Br_dec (fun q0 => ?_) (fun q0 => ?_)
    · have q0 : j < IntKind.i64.wrap (k + n) := q0
      rw [ekn] at q0
      obtain ⟨z, hz⟩ := h1 (0 + j.toNat * 3) (by omega)
      refine Br_intro (fun q1 => ?_) (fun q1 => ?_)
      · refine LdC_blk h3 rfl ?_
        refine Sd_intro (show 0 ≤ j ∧ j < (N : Int) by omega) ?_
        refine LdC_idx h2 hz ?_
        refine ⟨(k + n - (j + 1)).toNat, _, by omega, ?_, (decide (z = 0), j + 1), rfl, ⟨cap, zs, h1, h2, h3, h4⟩, f3, (show k ≤ j + 1 by omega), (show j + 1 ≤ k + n by omega), rfl⟩
        exact ⟨rfl, rfl, rfl, rfl, rfl, look_int rfl (wrap_i64 (by omega) (by omega)), trivial⟩
      · refine ⟨(k + n - (j + 1)).toNat, _, by omega, ?_, (false, j + 1), rfl, ⟨cap, zs, h1, h2, h3, h4⟩, f3, (show k ≤ j + 1 by omega), (show j + 1 ≤ k + n by omega), rfl⟩
        exact ⟨rfl, rfl, rfl, rfl, rfl, look_int rfl (wrap_i64 (by omega) (by omega)), trivial⟩
    · refine Br_intro (fun q1 => ?_) (fun q1 => ?_)
      · refine ⟨(N + 1 - (k + 1)).toNat, _, by omega, ?_, k + 1, rfl, ⟨cap, zs, h1, h2, h3, h4⟩, f3, (show 0 ≤ k + 1 by omega), (show k + 1 ≤ (N : Int) by omega), rfl⟩
        exact ⟨rfl, rfl, rfl, look_int rfl (wrap_i64 (by omega) (by omega)), trivial⟩
      · have hF : Fr (· = r) w w3 := No.any f3
        refine LoopC_intro (α := Int) (fun j => [(0, .pointer (some ⟨b, 0, none⟩)), (1, .int .i64 n), (2, .int .i64 size), (8, .int .i64 k), (11, .int .i64 j)]) (fun m j w4 => Is7 w4 b r N ∧ Fr (· = r) w w4 ∧ k ≤ j ∧ j ≤ k + n ∧ m = (k + n - j).toNat)
          (k + n - k : Int).toNat k ⟨rfl, rfl, rfl, rfl, rfl, trivial⟩ ⟨⟨cap, zs, h1, h2, h3, h4⟩, hF, Int.le_refl _, (show k ≤ k + n by omega), rfl⟩ (fun m3 j w4 hJ3 => Kp ?_)
        clear h2 h3 h1 zs cap hm2 j0 j1
        obtain ⟨⟨cap, zs, h1, h2, h3, h4⟩, f4, j0, j1, hm3⟩ := hJ3
        have j0 : k ≤ j := j0
        have j1 : j ≤ k + n := j1
        have hne := one_tab h2 h3
        refine Br_dec (fun q2 => ?_) (fun q2 => ?_)
        · have q2 : j < IntKind.i64.wrap (k + n) := q2
          rw [ekn] at q2
          obtain ⟨z, hz⟩ := h1 (0 + j.toNat * 3) (by omega)
          refine LdC_blk h3 rfl ?_
          refine Sd_intro (show 0 ≤ j ∧ j < (N : Int) by omega) ?_
          refine StC_idx h2 rfl hz (fun w5 h5 f5 _ => ?_)
          have hN := h1.set (0 + j.toNat * 3) 5
          obtain ⟨y, hy⟩ := hN (0 + j.toNat * 3 + 1) (by omega)
          have h35 := h3.keep f5 hne
          refine AnyC_plan T_ok mixed (planO [0,1,2,3,4,5,6,7,8,9,10,11,12,13,14,15,16,17,18,19,20,21,22,1023]) (fun w' => Blk w' b t_gleanerref07_Table [.int .i64 64, .slice (some ⟨r, 0, none⟩) N cap]) (by kernel_rfl) (by kernel_rfl) (h35.keep (Fr.drew w5) id) (Kp ?_)
          refine LdS_intro (fun w' hw => Blk.cell hw (o := 1) rfl) ?_
          refine LdS_intro (fun w' hw => Blk.cell hw (o := 0) rfl) ?_
          refine LdS_intro (fun w' hw => Blk.cell hw (o := 0) rfl) ?_
          refine Sd_intro (show 0 ≤ j ∧ j < (N : Int) by omega) ?_
          refine ⟨?_, trivial⟩
          refine StC_idx2 (h5.keep (Fr.drew w5) id) rfl hy (fun w6 h6 f6 _ => ?_)
          have f56 := f6.drewL
          refine Sd_intro (h35.keep f56 hne) ?_
          have h7 : Is7 w6 b r N := Is7.set _ _ hN h35 h4 h6 f56 hne
          refine ⟨(k + n - (j + 1)).toNat, _, by omega, ?_, j + 1, rfl, h7, (f4.same f5).same f56, (show k ≤ j + 1 by omega), (show j + 1 ≤ k + n by omega), rfl⟩
          exact ⟨rfl, rfl, rfl, rfl, look_int rfl (wrap_i64 (by omega) (by omega)), trivial⟩
        · obtain ⟨z, hz⟩ := h1 (0 + k.toNat * 3) (by omega)
          refine LdC_blk h3 rfl ?_
          refine Sd_intro (show 0 ≤ k ∧ k < (N : Int) by omega) ?_
          refine StC_idx h2 rfl hz (fun w5 h5 f5 _ => ?_)
          exact ⟨⟨_, _, rfl⟩, Is7.set _ _ h1 h3 h4 h5 f5 hne, f4.same f5⟩
  · exact ⟨⟨_, _, rfl⟩, ⟨cap, zs, h1, h2, h3, h4⟩, No.any f2⟩
theorem Bump7_spec (i n : Int) (w : World) (h : Is7 w b r N) : CallC Pr f_gleanerref07_Table_Bump [.pointer (some ⟨b, 0, none⟩), .int .i64 i, .int .i64 n] w (fun v w' => Two v ∧ Is7 w' b r N ∧ Fr (· = r) w w') := by
  refine call_sound T_ok fun_gleanerref07_Table_Bump rfl (by kernel_rfl) rfl (Kp ?_)
  refine CallC_intro (there7_spec i w h) (fun v w1 ⟨hv, f1⟩ => ?_)
  subst hv
  have h := h.keep f1 id id
  refine Br_ndec (fun g => ?_) (fun g => ?_)
  · exact ⟨⟨_, _, rfl⟩, h, No.any f1⟩
  have g : 0 ≤ i ∧ i < (N : Int) := g
  refine Br_dec (fun g1 => ?_) (fun g1 => ?_)
  · exact ⟨⟨_, _, rfl⟩, h, No.any f1⟩
  obtain ⟨cap, zs, h1, h2, h3, h4⟩ := h
  have hne := one_tab h2 h3
  obtain ⟨z, hz⟩ := h1 (0 + i.toNat * 3) (by omega)
  obtain ⟨z1, hz1⟩ := h1 (0 + i.toNat * 3 + 1) (by omega)
  refine LdC_blk h3 rfl ?_
  refine Sd_intro g ?_
  refine LdC_idx h2 hz ?_
  refine CallC_intro (plain7_spec _ w1) (fun v w2 ⟨⟨a, hv⟩, f2⟩ => ?_)
  subst hv
  have h2 := h2.keep f2 id
  have h3 := h3.keep f2 id
  have f12 : Fr (· = r) w w2 := No.any (f1.no f2)
  cases a with
  | false => exact ⟨⟨_, _, rfl⟩, ⟨cap, zs, h1, h2, h3, h4⟩, f12⟩
  | true =>
    refine AnyC_lex T_ok mixed (by kernel_rfl) (by kernel_rfl) (Kp ?_)
    refine LdS_blk h3 rfl ?_
    refine LdS_blk h3 rfl ?_
    refine Sd_intro g ?_
    refine LdS_idx2 h2 hz1 ?_
    have h2 := h2.keep (Fr.drew w2) id
    have h3 := h3.keep (Fr.drew w2) id
    refine Br_dec (fun g2 => ?_) (fun g2 => ?_)
    · exact ⟨⟨_, _, rfl⟩, ⟨cap, zs, h1, h2, h3, h4⟩, f12.drew'⟩
    · refine LdC_blk h3 rfl ?_
      refine Sd_intro g ?_
      refine LdC_idx2 h2 hz1 ?_
      refine LdC_blk h3 rfl ?_
      refine Sd_intro g ?_
      refine LdC_idx2 h2 hz1 ?_
      refine Sd_intro g ?_
      refine StC_idx2 h2 rfl hz1 (fun w3 h5 f3 _ => ?_)
      exact ⟨⟨_, _, rfl⟩, Is7.set _ _ h1 h3 h4 h5 f3 hne, f12.drew'.same f3⟩
theorem SetTop7_spec (i n : Int) (w : World) (h : Is7 w b r N) : CallC Pr f_gleanerref07_Table_SetTop [.pointer (some ⟨b, 0, none⟩), .int .i64 i, .int .i64 n] w (fun v w' => One7 v ∧ Is7 w' b r N ∧ Fr (· = r) w w') := by
  refine call_sound T_ok fun_gleanerref07_Table_SetTop rfl (by kernel_rfl) rfl (Kp ?_)
  refine CallC_intro (there7_spec i w h) (fun v w1 ⟨hv, f1⟩ => ?_)
  subst hv
  have h := h.keep f1 id id
  refine Br_ndec (fun g => ?_) (fun g => ?_)
  · exact ⟨⟨_, rfl⟩, h, No.any f1⟩
  have g : 0 ≤ i ∧ i < (N : Int) := g
  obtain ⟨cap, zs, h1, h2, h3, h4⟩ := h
  have hne := one_tab h2 h3
  obtain ⟨z, hz⟩ := h1 (0 + i.toNat * 3) (by omega)
  obtain ⟨z1, hz1⟩ := h1 (0 + i.toNat * 3 + 1) (by omega)
  refine LdC_blk h3 rfl ?_
  refine Br_dec (fun g1 => ?_) (fun g1 => ?_)
  · exact ⟨⟨_, rfl⟩, ⟨cap, zs, h1, h2, h3, h4⟩, No.any f1⟩
  refine LdC_blk h3 rfl ?_
  refine Br_dec (fun g2 => ?_) (fun g2 => ?_)
  · exact ⟨⟨_, rfl⟩, ⟨cap, zs, h1, h2, h3, h4⟩, No.any f1⟩
  refine LdC_blk h3 rfl ?_
  refine Sd_intro g ?_
  refine LdC_idx h2 hz ?_
  refine CallC_intro (plain7_spec _ w1) (fun v w2 ⟨⟨a, hv⟩, f2⟩ => ?_)
  subst hv
  have h2 := h2.keep f2 id
  have h3 := h3.keep f2 id
  have f12 : Fr (· = r) w w2 := No.any (f1.no f2)
  cases a with
  | false => exact ⟨⟨_, rfl⟩, ⟨cap, zs, h1, h2, h3, h4⟩, f12⟩
  | true =>
    refine LdC_blk h3 rfl ?_
    refine Sd_intro g ?_
    refine StC_idx2 h2 rfl hz1 (fun w3 h5 f3 _ => ?_)
    exact ⟨⟨_, rfl⟩, Is7.set _ _ h1 h3 h4 h5 f3 hne, f12.same f3⟩
theorem Mark7_spec (i : Int) (w : World) (h : Is7 w b r N) : CallC Pr f_gleanerref07_Table_Mark [.pointer (some ⟨b, 0, none⟩), .int .i64 i] w (fun v w' => One7 v ∧ Is7 w' b r N ∧ Fr (· = r) w w') := by
  refine call_sound T_ok fun_gleanerref07_Table_Mark rfl (by kernel_rfl) rfl (Kp ?_)
  refine CallC_intro (there7_spec i w h) (fun v w1 ⟨hv, f1⟩ => ?_)
  subst hv
  have h := h.keep f1 id id
  refine Br_ndec (fun g => ?_) (fun g => ?_)
  · exact ⟨⟨_, rfl⟩, h, No.any f1⟩
  have g : 0 ≤ i ∧ i < (N : Int) := g
  obtain ⟨cap, zs, h1, h2, h3, h4⟩ := h
  have hne := one_tab h2 h3
  obtain ⟨z1, hz1⟩ := h1 (0 + i.toNat * 3 + 1) (by omega)
  obtain ⟨z2, hz2⟩ := h1 (0 + i.toNat * 3 + 2) (by omega)
  refine AnyC_plan T_ok mixed (planO [0,1,2,3,4,5,6,7,8,9,10,11,12,13,14,1015]) (fun w' => Blk w' b t_gleanerref07_Table [.int .i64 64, .slice (some ⟨r, 0, none⟩) N cap] ∧ w'.cell? ⟨r, 0 + i.toNat * 3 + 1, none⟩ = some (.int .i64 z1)) (by kernel_rfl) (by kernel_rfl)
    ⟨h3.keep (Fr.drew w1) id, (h2.keep (Fr.drew w1) id).cell hz1⟩ (Kp ?_)
  refine LdS_intro (fun w' hw => Blk.cell hw.1 (o := 1) rfl) ?_
  refine LdS_intro (fun w' hw => Blk.cell hw.1 (o := 1) rfl) ?_
  refine Sd_intro g ?_
  refine LdS_intro (v := .int .i64 z1) (fun w' hw => by rw [add_add']; exact hw.2) ?_
  refine Sd_intro g ?_
  refine ⟨?_, trivial⟩
  refine StC_idx2 (h2.keep (Fr.drew w1) id) rfl hz2 (fun w3 h5 f3 _ => ?_)
  have f3 := f3.drewL
  refine Sd_intro ⟨h3.keep f3 hne, h5.cell (by rw [List.getElem?_set_ne (show 0 + i.toNat * 3 + 2 ≠ 0 + i.toNat * 3 + 1 by omega)]; exact hz1)⟩ ?_
  exact ⟨⟨_, rfl⟩, Is7.set _ _ h1 h3 h4 h5 f3 hne, (No.any f1 : Fr (· = r) w w1).same f3⟩
theorem Turn7_spec (i s : Int) (w : World) (h : Is7 w b r N) : CallC Pr f_gleanerref07_Table_Turn [.pointer (some ⟨b, 0, none⟩), .int .i64 i, .int .i64 s] w (fun v w' => One7 v ∧ Is7 w' b r N ∧ Fr (· = r) w w') := by
  refine call_sound T_ok fun_gleanerref07_Table_Turn rfl (by kernel_rfl) rfl (Kp ?_)
  refine CallC_intro (there7_spec i w h) (fun v w1 ⟨hv, f1⟩ => ?_)
  subst hv
  have h := h.keep f1 id id
  refine Br_ndec (fun g => ?_) (fun g => ?_)
  · exact ⟨⟨_, rfl⟩, h, No.any f1⟩
  have g : 0 ≤ i ∧ i < (N : Int) := g
  obtain ⟨cap, zs, h1, h2, h3, h4⟩ := h
  have hne := one_tab h2 h3
  obtain ⟨z, hz⟩ := h1 (0 + i.toNat * 3) (by omega)
  refine LdC_blk h3 rfl ?_
  refine Sd_intro g ?_
  refine LdC_idx h2 hz ?_
  refine CallC_intro (plain7_spec _ w1) (fun v w2 ⟨⟨a, hv⟩, f2⟩ => ?_)
  subst hv
  have h2 := h2.keep f2 id
  have h3 := h3.keep f2 id
  have f12 := f1.no f2
  cases a with
  | false => exact ⟨⟨_, rfl⟩, ⟨cap, zs, h1, h2, h3, h4⟩, No.any f12⟩
  | true =>
    refine CallC_intro (plain7_spec _ w2) (fun v w3 ⟨⟨a, hv⟩, f3⟩ => ?_)
    subst hv
    have h2 := h2.keep f3 id
    have h3 := h3.keep f3 id
    have f13 : Fr (· = r) w w3 := No.any (f12.no f3)
    cases a with
    | false => exact ⟨⟨_, rfl⟩, ⟨cap, zs, h1, h2, h3, h4⟩, f13⟩
    | true =>
      refine LdC_blk h3 rfl ?_
      refine Sd_intro g ?_
      refine StC_idx h2 rfl hz (fun w4 h5 f4 _ => ?_)
      exact ⟨⟨_, rfl⟩, Is7.set _ _ h1 h3 h4 h5 f4 hne, f13.same f4⟩
theorem Release7_spec (i : Int) (w : World) (h : Is7 w b r N) : CallC Pr f_gleanerref07_Table_Release [.pointer (some ⟨b, 0, none⟩), .int .i64 i] w (fun v w' => One7 v ∧ Is7 w' b r N ∧ Fr (· = r) w w') := by
  refine call_sound T_ok fun_gleanerref07_Table_Release rfl (by kernel_rfl) rfl (Kp ?_)
  refine CallC_intro (there7_spec i w h) (fun v w1 ⟨hv, f1⟩ => ?_)
  subst hv
  have h := h.keep f1 id id
  refine Br_ndec (fun g => ?_) (fun g => ?_)
  · exact ⟨⟨_, rfl⟩, h, No.any f1⟩
  have g : 0 ≤ i ∧ i < (N : Int) := g
  obtain ⟨cap, zs, h1, h2, h3, h4⟩ := h
  have hne := one_tab h2 h3
  obtain ⟨z, hz⟩ := h1 (0 + i.toNat * 3) (by omega)
  refine LdC_blk h3 rfl ?_
  refine Sd_intro g ?_
  refine LdC_idx h2 hz ?_
  refine Br_dec (fun g1 => ?_) (fun g1 => ?_)
  · exact ⟨⟨_, rfl⟩, ⟨cap, zs, h1, h2, h3, h4⟩, No.any f1⟩
  · refine AnyC_store T_ok mixed (by kernel_rfl) (by kernel_rfl) (Kp ?_)
    refine LdS_blk h3 rfl ?_
    refine LdS_blk h3 rfl ?_
    refine LdS_blk h3 rfl ?_
    refine Sd_intro g ?_
    refine ⟨?_, trivial⟩
    have hlen : 0 + i.toNat * 3 + 3 ≤ zs.length := by
      obtain ⟨y, hy⟩ := h1 (0 + i.toNat * 3 + 2) (by omega)
      have := (List.getElem?_eq_some_iff.1 hy).1; omega
    refine StN_idx h2 rfl hlen (fun w3 h5 f3 _ => ?_)
    have f3 := f3.drewL
    have h5 : Blk w3 r t_gleanerref07_One (((zs.set (0 + i.toNat * 3) (.int .i64 0)).set (0 + i.toNat * 3 + 1) (.int .i64 (IntKind.i64.wrap (i * 64)))).set (0 + i.toNat * 3 + 1 + 1) (.int .i64 (IntKind.i64.wrap (i * 64)))) := h5
    exact ⟨⟨_, rfl⟩, ⟨cap, _, ((h1.set _ _).set _ _).set _ _, h5, h3.keep f3 hne, h4⟩, (No.any f1 : Fr (· = r) w w1).same f3⟩
end
theorem ref07_New_aux (a0 a1 a2 a3 a4 a5 : Int) (w : World) (e0 : a0 = 256) (e1 : a1 = 64) (e3 : a3 = 4) :
    CallC Pr f_gleanerref07_New [.agg #[.int .i64 a0, .int .i64 a1, .int .i64 a2, .int .i64 a3, .int .i64 a4, .int .i64 a5]] w (fun v w' => ∃ b r, v = .tuple #[.pointer (some ⟨b, 0, none⟩), .int .i64 0] ∧ Is7 w' b r 4 ∧ Fr No w w' ∧ w.heap.size ≤ b ∧ w.heap.size ≤ r) := by
  refine call_sound T_ok fun_gleanerref07_New rfl (by kernel_rfl) rfl (Kp ?_)
  refine NewC_blk (fun g w1 hg h1 f1 _ => ?_)
  have h1 : Blk w1 g t_gleanerref02_Geom [.int .i64 a0, .int .i64 a1, .int .i64 a2, .int .i64 a3, .int .i64 a4, .int .i64 a5] := h1
  refine LdC_blk h1 rfl ?_
  refine Br_df (show ¬ a3 < 1 by omega) ?_
  refine LdC_blk h1 rfl ?_
  refine Br_df (show ¬ a3 > 65536 by omega) ?_
  refine LdC_blk h1 rfl ?_
  refine Br_df (show ¬ a1 < 1 by omega) ?_
  refine LdC_blk h1 rfl ?_
  refine Br_df (show ¬ a1 > 4194304 by omega) ?_
  refine LdC_blk h1 rfl ?_
  refine LdC_blk h1 rfl ?_
  refine LdC_blk h1 rfl ?_
  refine Br_nf (show a0 = IntKind.i64.wrap (a3 * a1) by subst e0 e1 e3; decide) ?_
  refine LdC_blk h1 rfl ?_
  refine Br_df (show ¬ a0 > 4194304 by omega) ?_
  refine LdC_blk h1 rfl ?_
  refine NewC_blk (fun b w2 hb h2 f2 s2 => ?_)
  have h2 : Blk w2 b t_gleanerref07_Table [.int .i64 a1, .slice none 0 0] := h2
  have s1 := f1.size
  have f12 := f1.no f2
  refine LoopC_intro (α := Value × Int) (fun q => [(1, .pointer (some ⟨g, 0, none⟩)), (4, .pointer (some ⟨b, 0, none⟩)), (5, .int .i64 q.2)])
    (fun m q w3 => Blk w3 g t_gleanerref02_Geom [.int .i64 a0, .int .i64 a1, .int .i64 a2, .int .i64 a3, .int .i64 a4, .int .i64 a5] ∧ Blk w3 b t_gleanerref07_Table [.int .i64 a1, q.1] ∧ 0 ≤ q.2 ∧ q.2 ≤ 4 ∧
      (∃ zs : List Int, zs.length = 3 * q.2.toNat ∧ w3.ownsRow w2.heap.size t_gleanerref07_One 3 q.1 q.2.toNat (ints zs)) ∧ Fr (· = b) w2 w3 ∧ m = (4 - q.2).toNat)
    (4 - 0 : Int).toNat (.slice none 0 0, 0) ⟨rfl, rfl, rfl, trivial⟩ ⟨h1.keep f2 id, h2, Int.le_refl _, (show (0 : Int) ≤ 4 by decide), ⟨[], rfl, World.ownsRow_nil _ _ _ _⟩, Fr.refl _ _, rfl⟩ (fun m q w3 hJ => Kp ?_)
  obtain ⟨v, k⟩ := q
  obtain ⟨h3, h4, k0, k1, ⟨zs, hz, hO⟩, f3, hm⟩ := hJ
  have k0 : 0 ≤ k := k0
  have k1 : k ≤ 4 := k1
  have hm : m = (4 - k).toNat := hm
  have hz : zs.length = 3 * k.toNat := hz
  have hO : w3.ownsRow w2.heap.size t_gleanerref07_One 3 v k.toNat (ints zs) := hO
  have s3 := f3.size
  refine LdC_blk h3 rfl ?_
  refine Br_dec (fun g0 => ?_) (fun g0 => ?_)
  · have g0 : k < a3 := g0
    refine AnyC_plan T_ok mixed (planL [0,1,2,3,4,5,6,7,8,9,10,11,12,13,14,15,16,17,1018,1019,20,21,1022]) (fun w' => Blk w' b t_gleanerref07_Table [.int .i64 a1, v]) (by kernel_rfl) (by kernel_rfl) (h4.keep (Fr.drew w3) id) (Kp ?_)
    refine LdS_intro (fun w' hw => Blk.cell hw (o := 1) rfl) ?_
    refine LdS_intro (fun w' hw => Blk.cell hw (o := 0) rfl) ?_
    refine LdS_intro (fun w' hw => Blk.cell hw (o := 0) rfl) ?_
    refine ⟨?_, trivial⟩
    refine NewC_blk (fun p5 w5 hp5 h5 f5 _ => ?_)
    have h5 : Blk w5 p5 t_gleanerref07_One [.int .i64 0, .int .i64 (IntKind.i64.wrap (k * a1)), .int .i64 (IntKind.i64.wrap (k * a1))] := h5
    have f5 := (Fr.drew w3).no f5
    have h45 := h4.keep f5 id
    refine Sd_intro h45 ?_
    refine ⟨?_, trivial⟩
    have s5 := f5.size
    have hbl := h4.lt
    refine ApC T_ok (e := t_gleanerref07_One) rfl rfl rfl (by decide) (own_keep hO f5 (fun _ _ => id)) (by omega) h5 (news := [.int .i64 0, .int .i64 (IntKind.i64.wrap (k * a1)), .int .i64 (IntKind.i64.wrap (k * a1))]) rfl rfl rfl (by omega) (show _ * 24 ≤ 140737488355328 by omega) (fun v6 w6 o6 f6 => ?_)
    have ge : ∀ j, v.ownBlock = some j → w2.heap.size ≤ j := fun j hj => own_ge hO j hj
    have hb2 : b < w2.heap.size := by omega
    have hg2 : g < w2.heap.size := by have := h1.lt; omega
    have hgb : g ≠ b := by have := h1.lt; omega
    have h46 := h45.keep f6 (fun e => by have := ge _ e; omega)
    refine Sd_intro h46 ?_
    refine ⟨?_, trivial⟩
    obtain ⟨a6, c6, rfl⟩ := own_slice o6
    refine StC_blk h46 rfl (o := 1) rfl (fun w7 h7 f7 _ => ?_)
    have h7 : Blk w7 b t_gleanerref07_Table [.int .i64 a1, .slice a6 (k.toNat + 1) c6] := h7
    have f36 : Fr (fun j => w2.heap.size ≤ j) w3 w6 := (No.any f5 : Fr (fun j => w2.heap.size ≤ j) w3 w5).trans f6 (fun _ _ e => e) (fun j _ e => ge j e)
    have f37 : Fr (fun j => j = b ∨ w2.heap.size ≤ j) w3 w7 := f36.trans f7 (fun _ _ e => .inr e) (fun _ _ e => .inl e)
    refine ⟨(4 - (k + 1)).toNat, _, by omega, ?_, (.slice a6 (k.toNat + 1) c6, k + 1), rfl, h3.keep f37 (fun e => by omega), h7, (show 0 ≤ k + 1 by omega), (show k + 1 ≤ 4 by omega), ⟨zs ++ [0, IntKind.i64.wrap (k * a1), IntKind.i64.wrap (k * a1)], ?_, ?_⟩, ?_, rfl⟩
    · exact ⟨rfl, rfl, look_int rfl (wrap_i64 (by omega) (by omega)), trivial⟩
    · show _ = 3 * (k + 1).toNat
      rw [List.length_append, hz, show (k + 1).toNat = k.toNat + 1 by omega]; show 3 * k.toNat + 3 = _; omega
    · show w7.ownsRow w2.heap.size t_gleanerref07_One 3 (.slice a6 (k.toNat + 1) c6) (k + 1).toNat _
      rw [ints_append, show (k + 1).toNat = k.toNat + 1 by omega]
      exact own_keep o6 f7 (fun j hj e => by have e : j = b := e; omega)
    · exact f3.trans f37 (fun _ _ e => e) (fun j hj e => by rcases e with e | e; exact e; omega)
  · have g0 : ¬ k < a3 := g0
    have ek : k = 4 := by omega
    subst ek
    rcases own_cases hO with ⟨_, h0, _⟩ | ⟨r, cap, cur, hv, hb2, hblk, ht, hn⟩
    · cases h0
    · subst hv
      subst e1
      refine ⟨b, r, rfl, ⟨cap, cur, fun j hj => ?_, hblk, h4, by omega⟩, ?_, by omega, by omega⟩
      · have hl : j < zs.length := by rw [hz]; exact hj
        have := ints_get? (List.getElem?_eq_getElem hl)
        rw [← ht, List.getElem?_take] at this
        split at this
        · exact ⟨_, this⟩
        · cases this
      · exact f12.new f3 (fun _ _ e => e) (fun j e => by have e : j = b := e; omega)
theorem ref07_New_spec (w : World) : CallC Pr f_gleanerref07_New [.agg #[.int .i64 256, .int .i64 64, .int .i64 8, .int .i64 4, .int .i64 32, .int .i64 192]] w (fun v w' => ∃ b r, v = .tuple #[.pointer (some ⟨b, 0, none⟩), .int .i64 0] ∧ Is7 w' b r 4 ∧ Fr No w w' ∧ w.heap.size ≤ b ∧ w.heap.size ≤ r) :=
  ref07_New_aux 256 64 8 4 32 192 w rfl rfl rfl
end Go.Proofs.Ytilhoimokegpjaa
