/- The document's set (gleanerref01): a bool a number. -/
import Derived.Test.YtilhoimokegpjabDoorBitsE
import Derived.Test.YtilhoimokegpjabDoorSame01
namespace Go.Proofs.YtilhoimokegpjabDoor
open Go.Vc

/-- The document's set, at b, its bools at r. -/
structure IsRef (w : World) (b r : Nat) (N : Nat) (S : Nat → Bool) : Prop where
  tab : Blk w b t_gleanerref01_Set [.slice (some ⟨r, 0, none⟩) N N]
  row : Blk w r t_bool (bools S N)
  n1 : N ≤ 4194304
section
variable {w w' : World} {b r : Nat} {N : Nat} {S S' : Nat → Bool}
theorem IsRef.keep {F : Nat → Prop} (h : IsRef w b r N S) (f : Fr F w w') (hb : ¬ F b) (hr : ¬ F r) : IsRef w' b r N S := ⟨h.tab.keep f hb, h.row.keep f hr, h.n1⟩
theorem IsRef.ne (h : IsRef w b r N S) : b ≠ r := by
  rintro rfl
  have := (h.tab.inj h.row).2
  cases this
theorem IsRef.of_eq (h : IsRef w b r N S) (e : ∀ j, j < N → S j = S' j) : IsRef w b r N S' := ⟨h.tab, h.row.of_eq (bools_congr e), h.n1⟩
end
theorem ref_New_bad (n : Int) (w : World) (h : n < 0 ∨ 4194304 < n) : CallC Pr f_gleanerref01_New [.int .i64 n] w (fun v w' => v = .tuple #[.pointer none, .int .i64 2] ∧ Fr No w w') := by
  refine call_sound T_ok fun_gleanerref01_New rfl (by kernel_rfl) rfl (Kp ?_)
  refine Br_dec (fun h0 => ?_) (fun h0 => ?_)
  · exact ⟨rfl, Fr.refl _ _⟩
  · have h0 : ¬ n < 0 := h0
    refine Br_dt (show n > 4194304 by omega) ?_
    exact ⟨rfl, Fr.refl _ _⟩
theorem ref_New_spec (n : Int) (w : World) (h0 : 0 ≤ n) (h1 : n ≤ 4194304) : CallC Pr f_gleanerref01_New [.int .i64 n] w (fun v w' => ∃ b r, v = .tuple #[.pointer (some ⟨b, 0, none⟩), .int .i64 0] ∧ IsRef w' b r n.toNat (fun _ => false) ∧ Fr No w w' ∧ w.heap.size ≤ b ∧ w.heap.size ≤ r) := by
  refine call_sound T_ok fun_gleanerref01_New rfl (by kernel_rfl) rfl (Kp ?_)
  refine Br_df (show ¬ n < 0 by omega) ?_
  refine Br_df (show ¬ n > 4194304 by omega) ?_
  refine MkC T_ok (z := .bool false) rfl rfl rfl rfl (n := n) (by omega) (by omega) (show (1 : Int) * n ≤ _ by omega) (fun r w2 hr h2 f2 s2 => ?_)
  refine NewC_blk (fun b w3 hb h3 f3 s3 => ?_)
  have s2' := f2.size
  exact ⟨b, r, rfl, ⟨h3, (h2.keep f3 id).of_eq bools_false.symm, by omega⟩, f2.no f3, by omega, by omega⟩
theorem ref_set_out {b r : Nat} {N : Nat} {S : Nat → Bool} (i : Int) (on : Bool) (w : World) (h : IsRef w b r N S) (hi : ¬ (0 ≤ i ∧ i < N)) :
    CallC Pr f_gleanerref01_Set_set [.pointer (some ⟨b, 0, none⟩), .int .i64 i, .bool on] w (fun v w' => v = .tuple #[.bool false, .int .i64 2] ∧ Fr No w w') := by
  refine call_sound T_ok fun_gleanerref01_Set_set rfl (by kernel_rfl) rfl (Kp ?_)
  refine Br_dec (fun h0 => ?_) (fun h0 => ?_)
  · exact ⟨rfl, Fr.refl _ _⟩
  · have h0 : ¬ i < 0 := h0
    refine LdC_blk h.tab rfl ?_
    refine Br_dt (show i ≥ (N : Int) by omega) ?_
    exact ⟨rfl, Fr.refl _ _⟩
theorem ref_set_in {b r : Nat} {N : Nat} {S : Nat → Bool} (i : Int) (on : Bool) (w : World) (h : IsRef w b r N S) (h0 : 0 ≤ i) (h1 : i < N) :
    CallC Pr f_gleanerref01_Set_set [.pointer (some ⟨b, 0, none⟩), .int .i64 i, .bool on] w (fun v w' => v = .tuple #[.bool (!(S i.toNat == on)), .int .i64 0] ∧ IsRef w' b r N (upd S i.toNat on) ∧ Fr (· = r) w w') := by
  refine call_sound T_ok fun_gleanerref01_Set_set rfl (by kernel_rfl) rfl (Kp ?_)
  refine Br_df (show ¬ i < 0 by omega) ?_
  refine LdC_blk h.tab rfl ?_
  refine Br_df (show ¬ i ≥ (N : Int) by omega) ?_
  refine LdC_blk h.tab rfl ?_
  refine Sd_intro (show 0 ≤ i ∧ i < (N : Int) by omega) ?_
  refine LdC_idx (v := .bool (S i.toNat)) h.row (by rw [Nat.zero_add, Nat.mul_one]; exact bools_get (by omega)) ?_
  refine LdC_blk h.tab rfl ?_
  refine Sd_intro (show 0 ≤ i ∧ i < (N : Int) by omega) ?_
  refine StC_idx h.row rfl (u := .bool (S i.toNat)) (by rw [Nat.zero_add, Nat.mul_one]; exact bools_get (by omega)) (fun w2 h2 f2 _ => ?_)
  rw [Nat.zero_add, Nat.mul_one, bools_set] at h2
  exact ⟨rfl, ⟨h.tab.keep f2 h.ne, h2, h.n1⟩, f2⟩
theorem ref_Put_out {b r : Nat} {N : Nat} {S : Nat → Bool} (i : Int) (w : World) (h : IsRef w b r N S) (hi : ¬ (0 ≤ i ∧ i < N)) :
    CallC Pr f_gleanerref01_Set_Put [.pointer (some ⟨b, 0, none⟩), .int .i64 i] w (fun v w' => v = .tuple #[.bool false, .int .i64 2] ∧ Fr No w w') := by
  refine call_sound T_ok fun_gleanerref01_Set_Put rfl (by kernel_rfl) rfl (Kp ?_)
  refine CallC_intro (ref_set_out i true w h hi) (fun v w1 ⟨hv, f1⟩ => ?_)
  subst hv
  exact ⟨rfl, f1⟩
theorem ref_Put_in {b r : Nat} {N : Nat} {S : Nat → Bool} (i : Int) (w : World) (h : IsRef w b r N S) (h0 : 0 ≤ i) (h1 : i < N) :
    CallC Pr f_gleanerref01_Set_Put [.pointer (some ⟨b, 0, none⟩), .int .i64 i] w (fun v w' => v = .tuple #[.bool (!S i.toNat), .int .i64 0] ∧ IsRef w' b r N (upd S i.toNat true) ∧ Fr (· = r) w w') := by
  refine call_sound T_ok fun_gleanerref01_Set_Put rfl (by kernel_rfl) rfl (Kp ?_)
  refine CallC_intro (ref_set_in i true w h h0 h1) (fun v w1 ⟨hv, h2, f1⟩ => ?_)
  rw [show (!(S i.toNat == true)) = !S i.toNat by cases S i.toNat <;> rfl] at hv
  subst hv
  exact ⟨rfl, h2, f1⟩
theorem ref_Drop_out {b r : Nat} {N : Nat} {S : Nat → Bool} (i : Int) (w : World) (h : IsRef w b r N S) (hi : ¬ (0 ≤ i ∧ i < N)) :
    CallC Pr f_gleanerref01_Set_Drop [.pointer (some ⟨b, 0, none⟩), .int .i64 i] w (fun v w' => v = .tuple #[.bool false, .int .i64 2] ∧ Fr No w w') := by
  refine call_sound T_ok fun_gleanerref01_Set_Drop rfl (by kernel_rfl) rfl (Kp ?_)
  refine CallC_intro (ref_set_out i false w h hi) (fun v w1 ⟨hv, f1⟩ => ?_)
  subst hv
  exact ⟨rfl, f1⟩
theorem ref_Drop_in {b r : Nat} {N : Nat} {S : Nat → Bool} (i : Int) (w : World) (h : IsRef w b r N S) (h0 : 0 ≤ i) (h1 : i < N) :
    CallC Pr f_gleanerref01_Set_Drop [.pointer (some ⟨b, 0, none⟩), .int .i64 i] w (fun v w' => v = .tuple #[.bool (S i.toNat), .int .i64 0] ∧ IsRef w' b r N (upd S i.toNat false) ∧ Fr (· = r) w w') := by
  refine call_sound T_ok fun_gleanerref01_Set_Drop rfl (by kernel_rfl) rfl (Kp ?_)
  refine CallC_intro (ref_set_in i false w h h0 h1) (fun v w1 ⟨hv, h2, f1⟩ => ?_)
  rw [show (!(S i.toNat == false)) = S i.toNat by cases S i.toNat <;> rfl] at hv
  subst hv
  exact ⟨rfl, h2, f1⟩
theorem ref_Has_spec {b r : Nat} {N : Nat} {S : Nat → Bool} (i : Int) (w : World) (h : IsRef w b r N S) (hS : ∀ p, S p = true → p < N) :
    CallC Pr f_gleanerref01_Set_Has [.pointer (some ⟨b, 0, none⟩), .int .i64 i] w (fun v w' => v = .bool (has S i) ∧ Fr No w w') := by
  refine call_sound T_ok fun_gleanerref01_Set_Has rfl (by kernel_rfl) rfl (Kp ?_)
  refine Br_dec (fun h0 => ?_) (fun h0 => ?_)
  · have h0 : i ≥ 0 := h0
    refine LdC_blk h.tab rfl ?_
    refine Br_dec (fun h1 => ?_) (fun h1 => ?_)
    · have h1 : i < (N : Int) := h1
      refine LdC_blk h.tab rfl ?_
      refine Sd_intro (show 0 ≤ i ∧ i < (N : Int) by omega) ?_
      refine LdC_idx (v := .bool (S i.toNat)) h.row (by rw [Nat.zero_add, Nat.mul_one]; exact bools_get (by omega)) ?_
      refine ⟨?_, Fr.refl _ _⟩
      show Value.bool (S i.toNat) = _
      unfold has
      rw [decide_eq_true (show 0 ≤ i from h0)]; rfl
    · have h1 : ¬ i < (N : Int) := h1
      refine ⟨?_, Fr.refl _ _⟩
      show Value.bool false = _
      unfold has
      cases hs : S i.toNat with
      | false => simp
      | true => have := hS _ hs; omega
  · have h0 : ¬ i ≥ 0 := h0
    refine ⟨?_, Fr.refl _ _⟩
    show Value.bool false = _
    unfold has
    rw [decide_eq_false (by omega)]; rfl
theorem ref_Next_spec {b r : Nat} {N : Nat} {S : Nat → Bool} (i : Int) (w : World) (h : IsRef w b r N S) (hS : ∀ p, S p = true → p < N) :
    CallC Pr f_gleanerref01_Set_Next [.pointer (some ⟨b, 0, none⟩), .int .i64 i] w (fun v w' => (∃ z, v = .int .i64 z ∧ NextIs S (max i 0).toNat z) ∧ Fr No w w') := by
  have hn := h.n1
  refine call_sound T_ok fun_gleanerref01_Set_Next rfl (by kernel_rfl) rfl (Kp ?_)
  generalize hI : max i 0 = I
  have eI : imax i 0 = I := by rw [imax_eq, hI]
  refine LoopC_intro (α := Int) (fun k => [(0, .pointer (some ⟨b, 0, none⟩)), (5, .int .i64 k)])
    (fun m k w2 => IsRef w2 b r N S ∧ Fr No w w2 ∧ I ≤ k ∧ (∀ p : Nat, I ≤ p → (p : Int) < k → S p = false) ∧ m = (N - k).toNat)
    (N - I : Int).toNat I ⟨rfl, look_int rfl eI, trivial⟩ ⟨h, Fr.refl _ _, Int.le_refl _, fun p h1 h2 => by have h2 : (p : Int) < I := h2; omega, rfl⟩ (fun m k w2 hJ => Kp ?_)
  obtain ⟨h2, f2, k0, kn, hm⟩ := hJ
  have k0 : I ≤ k := k0
  refine LdC_blk h2.tab rfl ?_
  refine Br_dec (fun g => ?_) (fun g => ?_)
  · have g : k < (N : Int) := g
    refine LdC_blk h2.tab rfl ?_
    refine Sd_intro (show 0 ≤ k ∧ k < (N : Int) by omega) ?_
    refine LdC_idx (v := .bool (S k.toNat)) h2.row (by rw [Nat.zero_add, Nat.mul_one]; exact bools_get (by omega)) ?_
    refine Br_intro (fun g1 => ?_) (fun g1 => ?_)
    · have g1 : S k.toNat = true := g1
      exact ⟨⟨k, rfl, .inr ⟨k.toNat, by omega, by omega, g1, fun q h1 h2 => kn q (by omega) (by omega)⟩⟩, f2⟩
    · have g1 : S k.toNat = false := g1
      refine ⟨(N - (k + 1)).toNat, _, by omega, ?_, k + 1, rfl, h2, f2, (show I ≤ k + 1 by omega), fun p h1 h2 => ?_, rfl⟩
      · exact ⟨rfl, look_int rfl (wrap_i64 (by omega) (by omega)), trivial⟩
      · have h2 : (p : Int) < k + 1 := h2
        by_cases hp : (p : Int) < k
        · exact kn p h1 hp
        · rw [show p = k.toNat by omega]; exact g1
  · have g : ¬ k < (N : Int) := g
    refine ⟨⟨-1, rfl, .inl ⟨rfl, fun p hp => ?_⟩⟩, f2⟩
    cases hs : S p with
    | false => rfl
    | true =>
      have := hS p hs
      rw [kn p (by omega) (by omega)] at hs
      cases hs
theorem ref_Count_spec {b r : Nat} {N : Nat} {S : Nat → Bool} (frm to : Int) (w : World) (h : IsRef w b r N S) :
    CallC Pr f_gleanerref01_Set_Count [.pointer (some ⟨b, 0, none⟩), .int .i64 frm, .int .i64 to] w (fun v w' => v = .int .i64 ((cnt (within S frm to) N : Nat) : Int) ∧ Fr No w w') := by
  have hn := h.n1
  refine call_sound T_ok fun_gleanerref01_Set_Count rfl (by kernel_rfl) rfl (Kp ?_)
  generalize hA : max frm 0 = A
  have eA : imax frm 0 = A := by rw [imax_eq, hA]
  have c0 : cnt (within S frm to) A.toNat = 0 := cnt_none fun j hj => by
    unfold within; rw [decide_eq_false (by omega)]; rfl
  refine LoopC_intro (α := Int) (fun k => [(0, .pointer (some ⟨b, 0, none⟩)), (2, .int .i64 to), (7, .int .i64 ((cnt (within S frm to) k.toNat : Nat) : Int)), (8, .int .i64 k)])
    (fun m k w2 => IsRef w2 b r N S ∧ Fr No w w2 ∧ A ≤ k ∧ (k = A ∨ k ≤ N) ∧ m = (N - k).toNat)
    (N - A : Int).toNat A ⟨rfl, rfl, look_int rfl (by rw [c0]; rfl), look_int rfl eA, trivial⟩ ⟨h, Fr.refl _ _, Int.le_refl _, .inl rfl, rfl⟩ (fun m k w2 hJ => Kp ?_)
  obtain ⟨h2, f2, k0, kN, hm⟩ := hJ
  have k0 : A ≤ k := k0
  have kN : k = A ∨ k ≤ N := kN
  have hc := cnt_le (within S frm to) k.toNat
  refine LdC_blk h2.tab rfl ?_
  refine Br_dec (fun g => ?_) (fun g => ?_)
  · have g : k < imin to (N : Int) := g
    rw [imin_eq] at g
    refine LdC_blk h2.tab rfl ?_
    refine Sd_intro (show 0 ≤ k ∧ k < (N : Int) by omega) ?_
    refine LdC_idx (v := .bool (S k.toNat)) h2.row (by rw [Nat.zero_add, Nat.mul_one]; exact bools_get (by omega)) ?_
    have hs : cnt (within S frm to) (k + 1).toNat = cnt (within S frm to) k.toNat + (S k.toNat).toNat := by
      rw [show (k + 1).toNat = k.toNat + 1 by omega]
      simp only [cnt]
      congr 2
      unfold within
      rw [decide_eq_true (by omega)]; rfl
    refine Br_intro (fun g1 => ?_) (fun g1 => ?_)
    · have g1 : S k.toNat = true := g1
      refine ⟨(N - (k + 1)).toNat, _, by omega, ?_, k + 1, rfl, h2, f2, (show A ≤ k + 1 by omega), .inr (show k + 1 ≤ (N : Int) by omega), rfl⟩
      refine ⟨rfl, rfl, look_int rfl ?_, look_int rfl (wrap_i64 (by omega) (by omega)), trivial⟩
      rw [hs, g1, wrap_i64 (by omega) (by omega)]
      rfl
    · have g1 : S k.toNat = false := g1
      refine ⟨(N - (k + 1)).toNat, _, by omega, ?_, k + 1, rfl, h2, f2, (show A ≤ k + 1 by omega), .inr (show k + 1 ≤ (N : Int) by omega), rfl⟩
      refine ⟨rfl, rfl, look_int rfl ?_, look_int rfl (wrap_i64 (by omega) (by omega)), trivial⟩
      rw [hs, g1]
      rfl
  · have g : ¬ k < imin to (N : Int) := g
    rw [imin_eq] at g
    refine ⟨?_, f2⟩
    show Value.int .i64 ((cnt (within S frm to) k.toNat : Nat) : Int) = _
    have z : ∀ j : Nat, to ≤ j ∨ (j : Int) < A → within S frm to j = false := fun j hj => by
      unfold within; rw [decide_eq_false (by omega)]; rfl
    congr 2
    rcases Nat.le_total N k.toNat with hle | hle
    · by_cases hk : k = A
      · rw [hk, c0, cnt_none (fun j hj => z j (by omega))]
      · have : k.toNat = N := by omega
        rw [this]
    · exact (cnt_more hle (fun j h1 h2 => z j (by omega))).symm
theorem ref_Fill_out {b r : Nat} {N : Nat} {S : Nat → Bool} (frm to : Int) (on : Bool) (w : World) (h : IsRef w b r N S) (ho : frm < 0 ∨ to < frm ∨ N < to) :
    CallC Pr f_gleanerref01_Set_Fill [.pointer (some ⟨b, 0, none⟩), .int .i64 frm, .int .i64 to, .bool on] w (fun v w' => v = .int .i64 2 ∧ Fr No w w') := by
  refine call_sound T_ok fun_gleanerref01_Set_Fill rfl (by kernel_rfl) rfl (Kp ?_)
  refine Br_dec (fun g => ?_) (fun g => ?_)
  · exact ⟨rfl, Fr.refl _ _⟩
  · have g : ¬ frm < 0 := g
    refine Br_dec (fun g1 => ?_) (fun g1 => ?_)
    · exact ⟨rfl, Fr.refl _ _⟩
    · have g1 : ¬ to < frm := g1
      refine LdC_blk h.tab rfl ?_
      refine Br_dt (show to > (N : Int) by omega) ?_
      exact ⟨rfl, Fr.refl _ _⟩
theorem ref_Fill_spec {b r : Nat} {N : Nat} {S : Nat → Bool} (frm to : Int) (on : Bool) (w : World) (h : IsRef w b r N S) (h0 : 0 ≤ frm) (h1 : frm ≤ to) (h2 : to ≤ N) :
    CallC Pr f_gleanerref01_Set_Fill [.pointer (some ⟨b, 0, none⟩), .int .i64 frm, .int .i64 to, .bool on] w (fun v w' => v = .int .i64 0 ∧ IsRef w' b r N (bfill S frm to on) ∧ Fr (· = r) w w') := by
  have hn := h.n1
  refine call_sound T_ok fun_gleanerref01_Set_Fill rfl (by kernel_rfl) rfl (Kp ?_)
  refine Br_df (show ¬ frm < 0 by omega) ?_
  refine Br_df (show ¬ to < frm by omega) ?_
  refine LdC_blk h.tab rfl ?_
  refine Br_df (show ¬ to > (N : Int) by omega) ?_
  refine LoopC_intro (α := Int) (fun k => [(0, .pointer (some ⟨b, 0, none⟩)), (2, .int .i64 to), (3, .bool on), (9, .int .i64 k)])
    (fun m k w2 => IsRef w2 b r N (bfill S frm k on) ∧ Fr (· = r) w w2 ∧ frm ≤ k ∧ k ≤ to ∧ m = (to - k).toNat)
    (to - frm : Int).toNat frm ⟨rfl, rfl, rfl, rfl, trivial⟩ ⟨h.of_eq (fun j _ => by unfold bfill; rw [if_neg (by omega)]), Fr.refl _ _, Int.le_refl _, h1, rfl⟩ (fun m k w2 hJ => Kp ?_)
  obtain ⟨h3, f2, k0, k1, hm⟩ := hJ
  have k0 : frm ≤ k := k0
  have k1 : k ≤ to := k1
  refine Br_dec (fun g => ?_) (fun g => ?_)
  · have g : k < to := g
    refine LdC_blk h3.tab rfl ?_
    refine Sd_intro (show 0 ≤ k ∧ k < (N : Int) by omega) ?_
    refine StC_idx h3.row rfl (u := .bool (bfill S frm k on k.toNat)) (by rw [Nat.zero_add, Nat.mul_one]; exact bools_get (by omega)) (fun w4 h4 f4 _ => ?_)
    rw [Nat.zero_add, Nat.mul_one, bools_set] at h4
    refine ⟨(to - (k + 1)).toNat, _, by omega, ?_, k + 1, rfl, (IsRef.mk (h3.tab.keep f4 h3.ne) h4 h3.n1).of_eq (fun j _ => ?_), f2.same f4, (show frm ≤ k + 1 by omega), (show k + 1 ≤ to by omega), rfl⟩
    · exact ⟨rfl, rfl, rfl, look_int rfl (wrap_i64 (by omega) (by omega)), trivial⟩
    · unfold upd bfill
      by_cases e : j = k.toNat
      · rw [if_pos e, if_pos (by omega)]
      · rw [if_neg e]
        by_cases e2 : frm ≤ (j : Int) ∧ (j : Int) < k
        · rw [if_pos e2, if_pos (by omega)]
        · rw [if_neg e2, if_neg (by omega)]
  · have g : ¬ k < to := g
    have : k = to := by omega
    subst this
    exact ⟨rfl, h3, f2⟩
theorem ref_List_spec {b r : Nat} {N : Nat} {S : Nat → Bool} (w : World) (h : IsRef w b r N S) :
    CallC Pr f_gleanerref01_Set_List [.pointer (some ⟨b, 0, none⟩)] w (fun v w' => Own w' w.heap.size v (elems S N) ∧ Fr No w w') := by
  have hn := h.n1
  have hb := h.tab.lt
  have hr := h.row.lt
  refine call_sound T_ok fun_gleanerref01_Set_List rfl (by kernel_rfl) rfl (Kp ?_)
  refine LoopC_intro (α := Value × Int) (fun q => [(0, .pointer (some ⟨b, 0, none⟩)), (3, q.1), (4, .int .i64 q.2)])
    (fun m q w2 => IsRef w2 b r N S ∧ Fr No w w2 ∧ Own w2 w.heap.size q.1 (elems S q.2.toNat) ∧ 0 ≤ q.2 ∧ q.2 ≤ N ∧ m = (N - q.2).toNat)
    (N - 0 : Int).toNat (.slice none 0 0, 0) ⟨rfl, rfl, rfl, trivial⟩
    ⟨h, Fr.refl _ _, Own.nil _ _, Int.le_refl _, (show (0 : Int) ≤ N by omega), rfl⟩ (fun m q w2 hJ => Kp ?_)
  obtain ⟨v, k⟩ := q
  obtain ⟨h2, f2, hO, k0, k1, hm⟩ := hJ
  have hO : Own w2 w.heap.size v (elems S k.toNat) := hO
  have k0 : 0 ≤ k := k0
  have k1 : k ≤ N := k1
  have hm : m = (N - k).toNat := hm
  have hle := elems_le S k.toNat
  have hs : elems S (k + 1).toNat = elems S k.toNat ++ (if S k.toNat = true then [k] else []) := by
    rw [show (k + 1).toNat = k.toNat + 1 by omega]
    simp only [elems]
    rw [show ((k.toNat : Nat) : Int) = k by omega]
  refine LdC_blk h2.tab rfl ?_
  refine Br_dec (fun g => ?_) (fun g => ?_)
  · have g : k < (N : Int) := g
    refine LdC_blk h2.tab rfl ?_
    refine Sd_intro (show 0 ≤ k ∧ k < (N : Int) by omega) ?_
    refine LdC_idx (v := .bool (S k.toNat)) h2.row (by rw [Nat.zero_add, Nat.mul_one]; exact bools_get (by omega)) ?_
    refine Br_intro (fun g1 => ?_) (fun g1 => ?_)
    · have g1 : S k.toNat = true := g1
      rw [if_pos g1] at hs
      refine NewC_blk (fun p5 w5 hp5 h5 f5 _ => ?_)
      refine ApC T_ok (e := t_int) rfl rfl rfl (by decide) (hO.keep f5 (fun _ _ => id)) (f2.no f5).size h5 (news := [.int .i64 k]) rfl rfl rfl (by omega) (show _ * 8 ≤ 140737488355328 by omega) (fun v6 w6 o6 f6 => ?_)
      have ge : ∀ j, v.ownBlock = some j → w.heap.size ≤ j := fun j hj => hO.ge j hj
      have f26 : Fr (fun j => v.ownBlock = some j) w2 w6 := f5.noL f6
      have fw6 : Fr No w w6 := f2.new f26 (fun _ _ e => e) (fun j e => ge j e)
      refine ⟨(N - (k + 1)).toNat, _, by omega, ?_, (v6, k + 1), rfl, h2.keep f26 (fun e => by have := ge _ e; omega) (fun e => by have := ge _ e; omega), fw6, ?_, (show 0 ≤ k + 1 by omega), (show k + 1 ≤ (N : Int) by omega), rfl⟩
      · exact ⟨rfl, rfl, look_int rfl (wrap_i64 (by omega) (by omega)), trivial⟩
      · show Own w6 w.heap.size v6 (elems S (k + 1).toNat)
        rw [hs]
        unfold Own
        rw [List.length_append, ints_append]
        exact o6
    · have g1 : S k.toNat = false := g1
      rw [if_neg (by rw [g1]; decide), List.append_nil] at hs
      refine ⟨(N - (k + 1)).toNat, _, by omega, ?_, (v, k + 1), rfl, h2, f2, hO.of_eq hs.symm, (show 0 ≤ k + 1 by omega), (show k + 1 ≤ (N : Int) by omega), rfl⟩
      exact ⟨rfl, rfl, look_int rfl (wrap_i64 (by omega) (by omega)), trivial⟩
  · have g : ¬ k < (N : Int) := g
    refine ⟨hO.of_eq ?_, f2⟩
    rw [show k.toNat = N by omega]
end Go.Proofs.YtilhoimokegpjabDoor
