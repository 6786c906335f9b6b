/- Layer 1's laws: awake, and a set that isn't there. -/
import Derived.Test.YtilhoimokegpjaaDoorBitsE
namespace Go.Proofs.YtilhoimokegpjaaDoor
open Go.Vc

theorem awake01_spec (w : World) (hT : Tab64 w) : CallC Pr f_gleanerlaw01_awake [] w (fun v w' => v = .bool true ∧ Fr No w w') := by
  refine call_sound T_ok fun_gleanerlaw01_awake rfl (by kernel_rfl) rfl (Kp ?_)
  refine CallC_intro (bits_New_spec 130 w (by omega) (by omega)) (fun v w1 ⟨b, r, hv, h1, f1, hb, hr⟩ => ?_)
  subst hv
  have hg := hT.lt
  refine CallC_intro (Put_spec 129 w1 h1 (by omega) (by omega)) (fun v w2 ⟨hv, h2, f2⟩ => ?_)
  subst hv
  have k2 : Fr No w w2 := f1.new f2 (fun _ _ e => e) (fun k e => by omega)
  refine CallC_intro (Fill_spec 60 70 true w2 h2 (by omega) (by omega) (by omega)) (fun v w3 ⟨hv, h3, f3⟩ => ?_)
  subst hv
  have k3 : Fr No w w3 := k2.new f3 (fun _ _ e => e) (fun k e => by omega)
  have hT3 := hT.keep k3 id
  refine CallC_intro (Has_spec 129 w3 h3) (fun v w4 ⟨hv, f4⟩ => ?_)
  have e4 : has (bfill (bput (fun _ => false) (129 : Int).toNat) 60 70 true) 129 = true := by decide
  rw [e4] at hv
  subst hv
  have h4 := h3.keep f4 id id
  have k4 := k3.no f4
  refine CallC_intro (Has_spec 0 w4 h4) (fun v w5 ⟨hv, f5⟩ => ?_)
  have e5 : has (bfill (bput (fun _ => false) (129 : Int).toNat) 60 70 true) 0 = false := by decide
  rw [e5] at hv
  subst hv
  have h5 := h4.keep f5 id id
  have k5 := k4.no f5
  refine CallC_intro (Next_spec 70 w5 h5 (hT.keep k5 id)) (fun v w6 ⟨⟨z, hv, hz⟩, f6⟩ => ?_)
  have ez : z = 129 := hz.uniq (.inr ⟨129, rfl, by decide, by decide, fun q h1 h2 => by
    have h1 : 70 ≤ q := h1
    show (if (60 : Int) ≤ q ∧ (q : Int) < 70 then true else (decide (q = (129 : Int).toNat) || false)) = false
    rw [if_neg (by omega), decide_eq_false (by omega)]; rfl⟩)
  subst ez
  subst hv
  have h6 := h5.keep f6 id id
  have k6 := k5.no f6
  refine CallC_intro (Count_spec 0 130 w6 h6 (by omega)) (fun v w7 ⟨hv, f7⟩ => ?_)
  have e7 : cnt (within (bfill (bput (fun _ => false) (129 : Int).toNat) 60 70 true) 0 130) (130 : Int).toNat = 11 := by decide +kernel
  rw [e7] at hv
  subst hv
  have h7 := h6.keep f7 id id
  have k7 := k6.no f7
  refine CallC_intro (bits_Len_spec w7 h7) (fun v w8 ⟨hv, f8⟩ => ?_)
  subst hv
  exact ⟨rfl, k7.no f8⟩
end Go.Proofs.YtilhoimokegpjaaDoor
