/- Layer 11 (remset): what isn't there; keys. -/
import Derived.Test.YtdhbpklmkibmbaaGreatQueue
import Derived.Test.YtdhbpklmkibmbaaGreatBitsE
import Derived.Test.YtdhbpklmkibmbaaGreatVcL
import Derived.Test.YtdhbpklmkibmbaaGreatMapK
namespace Go.Proofs.YtdhbpklmkibmbaaGreat
open Go.Vc

theorem rregion_nil (r : Int) (w : World) : CallC Pr f_remset_Sets_region [.pointer none, .int .i64 r] w (fun v w' => v = .bool false ∧ Fr No w w') := by
  refine call_sound T_ok fun_remset_Sets_region rfl (by kernel_rfl) rfl (Kp ?_)
  exact ⟨rfl, Fr.refl _ _⟩
theorem rkey_nil (a b : Int) (w : World) : CallC Pr f_remset_Sets_key [.pointer none, .int .i64 a, .int .i64 b] w (fun v w' => v = .tuple #[pairV (0, 0), .int .i64 1] ∧ Fr No w w') := by
  refine call_sound T_ok fun_remset_Sets_key rfl (by kernel_rfl) rfl (Kp ?_)
  refine NewC_blk (fun p w1 hp h1 f1 s1 => ?_)
  refine StN_blk h1 rfl (Nat.le_of_ble_eq_true rfl) (fun w2 h2 f2 s2 => ?_)
  have h2 : Blk w2 p t_remset_pair (pairL (0, 0)) := h2
  refine LdN_blk (vs := pairL (0, 0)) h2 rfl rfl ?_
  exact ⟨rfl, f1.new f2 (fun _ _ e => e) (fun k e => by omega)⟩
theorem Add_nil11 (a b : Int) (w : World) : CallC Pr f_remset_Sets_Add [.pointer none, .int .i64 a, .int .i64 b] w (fun v w' => v = .tuple #[.bool false, .int .i64 1] ∧ Fr No w w') := by
  refine call_sound T_ok fun_remset_Sets_Add rfl (by kernel_rfl) rfl (Kp ?_)
  refine CallC_intro (rkey_nil a b w) (fun v w1 ⟨hv, f1⟩ => ?_)
  subst hv
  refine NewC_blk (fun p w2 hp h2 f2 s2 => ?_)
  refine StN_blk h2 rfl (Nat.le_of_ble_eq_true rfl) (fun w3 h3 f3 s3 => ?_)
  exact ⟨rfl, (f1.no f2).new f3 (fun _ _ e => e) (fun k e => by have := f1.size; omega)⟩
theorem Has_nil11 (a b : Int) (w : World) : CallC Pr f_remset_Sets_Has [.pointer none, .int .i64 a, .int .i64 b] w (fun v w' => v = .bool false ∧ Fr No w w') := by
  refine call_sound T_ok fun_remset_Sets_Has rfl (by kernel_rfl) rfl (Kp ?_)
  refine CallC_intro (rkey_nil a b w) (fun v w1 ⟨hv, f1⟩ => ?_)
  subst hv
  refine NewC_blk (fun p w2 hp h2 f2 s2 => ?_)
  refine StN_blk h2 rfl (Nat.le_of_ble_eq_true rfl) (fun w3 h3 f3 s3 => ?_)
  exact ⟨rfl, (f1.no f2).new f3 (fun _ _ e => e) (fun k e => by have := f1.size; omega)⟩
theorem forget_nil11 (a : Int) (fv : Value) (w : World) (hfv : ∃ f c, fv = .func (.func f) #[] c) : CallC Pr f_remset_Sets_forget [.pointer none, .int .i64 a, fv] w (fun v w' => v = .int .i64 1 ∧ Fr No w w') := by
  obtain ⟨f, c, rfl⟩ := hfv
  refine call_sound T_ok fun_remset_Sets_forget rfl (by kernel_rfl) rfl (Kp ?_)
  refine NewC_blk (fun p w1 hp h1 f1 s1 => ?_)
  exact ⟨rfl, f1⟩
theorem Clear_nil11 (a : Int) (w : World) : CallC Pr f_remset_Sets_Clear [.pointer none, .int .i64 a] w (fun v w' => v = .int .i64 1 ∧ Fr No w w') := by
  refine call_sound T_ok fun_remset_Sets_Clear rfl (by kernel_rfl) rfl (Kp ?_)
  refine NewC_blk (fun p w1 hp h1 f1 s1 => ?_)
  have h1 : Blk w1 p t_int [.int .i64 a] := h1
  refine LdC_blk h1 rfl ?_
  refine CallC_intro (forget_nil11 a _ w1 ⟨_, _, rfl⟩) (fun v w2 ⟨hv, f2⟩ => ?_)
  subst hv
  exact ⟨rfl, f1.no f2⟩
theorem Scrub_nil11 (a : Int) (w : World) : CallC Pr f_remset_Sets_Scrub [.pointer none, .int .i64 a] w (fun v w' => v = .int .i64 1 ∧ Fr No w w') := by
  refine call_sound T_ok fun_remset_Sets_Scrub rfl (by kernel_rfl) rfl (Kp ?_)
  refine NewC_blk (fun p w1 hp h1 f1 s1 => ?_)
  have h1 : Blk w1 p t_int [.int .i64 a] := h1
  refine LdC_blk h1 rfl ?_
  refine CallC_intro (forget_nil11 a _ w1 ⟨_, _, rfl⟩) (fun v w2 ⟨hv, f2⟩ => ?_)
  subst hv
  exact ⟨rfl, f1.no f2⟩
theorem rregion_spec {b m1 m2 m3 : Nat} {n per : Int} (r : Int) (w : World) (h : Blk w b t_remset_Sets [.int .i64 n, .int .i64 per, .map (some m1), .map (some m2), .map (some m3)]) :
    CallC Pr f_remset_Sets_region [.pointer (some ⟨b, 0, none⟩), .int .i64 r] w (fun v w' => v = .bool (decide (0 ≤ r ∧ r < n)) ∧ Fr No w w') := by
  refine call_sound T_ok fun_remset_Sets_region rfl (by kernel_rfl) rfl (Kp ?_)
  refine Br_dec (fun g => ?_) (fun g => ?_)
  · have g : r ≥ 0 := g
    refine LdC_blk h rfl ?_
    refine ⟨?_, Fr.refl _ _⟩
    have : decide (r < n) = decide (0 ≤ r ∧ r < n) := by rw [decide_eq_decide]; omega
    rw [← this]; rfl
  · have g : ¬ r ≥ 0 := g
    refine ⟨?_, Fr.refl _ _⟩
    rw [decide_eq_false (by omega : ¬ (0 ≤ r ∧ r < n))]; rfl
theorem rkey_spec {b m1 m2 m3 : Nat} {n per : Int} (a c : Int) (w : World) (h : Blk w b t_remset_Sets [.int .i64 n, .int .i64 per, .map (some m1), .map (some m2), .map (some m3)]) (hp : 1 ≤ per) (hn : 1 ≤ n) (hnp : n * per ≤ 4194304) :
    CallC Pr f_remset_Sets_key [.pointer (some ⟨b, 0, none⟩), .int .i64 a, .int .i64 c] w (fun v w' => ((0 ≤ a ∧ a < n ∧ 0 ≤ c ∧ c < n * per ∧ v = .tuple #[pairV (a, c / per), .int .i64 0]) ∨ (¬ (0 ≤ a ∧ a < n ∧ 0 ≤ c ∧ c < n * per) ∧ v = .tuple #[pairV (0, 0), .int .i64 2])) ∧ Fr No w w') := by
  have hnp0 : 1 ≤ n * per := by have := Int.mul_le_mul hn hp (by omega) (by omega); omega
  have hnp1 : n ≤ n * per := by have := Int.mul_le_mul_of_nonneg_left hp (show (0 : Int) ≤ n by omega); omega
  have hnp2 : per ≤ n * per := by have := Int.mul_le_mul_of_nonneg_right hn (show (0 : Int) ≤ per by omega); omega
  have ew : IntKind.i64.wrap (n * per) = n * per := wrap_i64 (by omega) (by omega)
  refine call_sound T_ok fun_remset_Sets_key rfl (by kernel_rfl) rfl (Kp ?_)
  refine NewC_blk (fun p w1 hpp h1 f1 s1 => ?_)
  have h1 : Blk w1 p t_remset_pair (pairL (0, 0)) := h1
  have hb := h.keep f1 id
  have pb : p ≠ b := by have := h.lt; omega
  refine AnyC_mid (α := Bool) (fun r => [(0, .pointer (some ⟨b, 0, none⟩)), (1, .int .i64 a), (2, .int .i64 c), (6, .pointer (some ⟨p, 0, none⟩)), (12, .bool r)]) (fun r w' => Fr No w1 w' ∧ r = !decide (0 ≤ a ∧ a < n ∧ 0 ≤ c ∧ c < n * per)) ?_ (fun r w2 hw2 => Kp ?_)
  · refine AnyC_plan T_ok mixed (planO [0,1,1002,3,4,5,6,7,8,9,10,11,12,13,14,15,16,17,18,19,20,21]) (Old w1) (by kernel_rfl) (by kernel_rfl) (fun _ _ => rfl) (Kp ?_)
    refine ⟨?_, trivial⟩
    refine CallC_intro (rregion_spec a _ (hb.keep (Fr.drew w1) id)) (fun v w2 ⟨hv, f2⟩ => ?_)
    subst hv
    have f2 := f2.drewL
    refine Sd_intro f2.old ?_
    refine Br_ndec (fun g => ?_) (fun g => ?_)
    · have g : ¬ (0 ≤ a ∧ a < n) := g
      refine ⟨true, ⟨rfl, rfl, rfl, rfl, rfl, trivial⟩, f2, ?_⟩
      rw [decide_eq_false (fun e => g ⟨e.1, e.2.1⟩)]; rfl
    · have g : 0 ≤ a ∧ a < n := g
      refine Br_dec (fun g1 => ?_) (fun g1 => ?_)
      · have g1 : c < 0 := g1
        refine ⟨true, ⟨rfl, rfl, rfl, rfl, rfl, trivial⟩, f2, ?_⟩
        rw [decide_eq_false (by omega)]; rfl
      · have g1 : ¬ c < 0 := g1
        refine LdS_blk hb rfl ?_
        refine LdS_blk hb rfl ?_
        refine ⟨decide (c ≥ IntKind.i64.wrap (n * per)), ⟨rfl, rfl, rfl, rfl, rfl, trivial⟩, f2, ?_⟩
        rw [ew]
        by_cases g2 : c < n * per
        · rw [decide_eq_true (⟨g.1, g.2, by omega, g2⟩ : 0 ≤ a ∧ a < n ∧ 0 ≤ c ∧ c < n * per), decide_eq_false (by omega)]; rfl
        · rw [decide_eq_false (fun e => g2 e.2.2.2 : ¬ (0 ≤ a ∧ a < n ∧ 0 ≤ c ∧ c < n * per)), decide_eq_true (by omega)]; rfl
  · obtain ⟨f2, hr⟩ := hw2
    have h2 := h1.keep f2 id
    have hb2 := hb.keep f2 id
    refine Br_intro (fun e => ?_) (fun e => ?_)
    · rw [e] at hr
      refine StN_blk h2 rfl (Nat.le_of_ble_eq_true rfl) (fun w3 h3 f3 s3 => ?_)
      have h3 : Blk w3 p t_remset_pair (pairL (0, 0)) := h3
      refine LdN_blk (vs := pairL (0, 0)) h3 rfl rfl ?_
      refine ⟨.inr ⟨?_, rfl⟩, (f1.no f2).new f3 (fun _ _ e => e) (fun k e => by omega)⟩
      have hr : (true : Bool) = !decide (0 ≤ a ∧ a < n ∧ 0 ≤ c ∧ c < n * per) := hr
      intro hh
      rw [decide_eq_true hh] at hr
      cases hr
    · rw [e] at hr
      have hr : (false : Bool) = !decide (0 ≤ a ∧ a < n ∧ 0 ≤ c ∧ c < n * per) := hr
      have hh : 0 ≤ a ∧ a < n ∧ 0 ≤ c ∧ c < n * per := by
        by_cases q : 0 ≤ a ∧ a < n ∧ 0 ≤ c ∧ c < n * per
        · exact q
        · rw [decide_eq_false q] at hr; cases hr
      have eq1 : c.tdiv per = c / per := Int.tdiv_eq_ediv_of_nonneg hh.2.2.1
      have hq0 : 0 ≤ c / per := Int.ediv_nonneg hh.2.2.1 (by omega)
      have hq1 : c / per ≤ c := Int.ediv_le_self _ hh.2.2.1
      have eq2 : IntKind.i64.wrap (c.tdiv per) = c / per := by rw [eq1]; exact wrap_i64 (by omega) (by omega)
      refine LdC_blk hb2 rfl ?_
      refine Sd_intro (by omega) ?_
      refine StN_blk h2 rfl (Nat.le_of_ble_eq_true rfl) (fun w3 h3 f3 s3 => ?_)
      have h3 : Blk w3 p t_remset_pair (pairL (a, IntKind.i64.wrap (c.tdiv per))) := h3
      rw [eq2] at h3
      refine LdN_blk (vs := pairL (a, c / per)) h3 rfl rfl ?_
      exact ⟨.inl ⟨hh.1, hh.2.1, hh.2.2.1, hh.2.2.2, rfl⟩, (f1.no f2).new f3 (fun _ _ e => e) (fun k e => by omega)⟩
end Go.Proofs.YtdhbpklmkibmbaaGreat
