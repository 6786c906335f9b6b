/- Layer 11 (remset): Way and Has, in the sets' own words. -/
import Derived.Test.YtdhbpklmkibmbaaGreatRem13
namespace Go.Proofs.YtdhbpklmkibmbaaGreat
open Go.Vc

def wayA (n : Int) (A : Abs) (hm s : Int) : Int := if 0 ≤ hm ∧ hm < n then (match A (hm, s) with
  | .co => 3
  | .fi _ => 2
  | .sp l => if l = [] then 0 else 1) else 0
def hasS (per : Int) (c : Int) : Src → Bool
  | .co => true
  | .fi S => S (c % per).toNat
  | .sp l => decide (c ∈ l)
def hasA (n per : Int) (A : Abs) (hm c : Int) : Bool := if 0 ≤ hm ∧ hm < n ∧ 0 ≤ c ∧ c < n * per then hasS per c (A (hm, c / per)) else false
theorem Has_range {b m1 m2 m3 : Nat} {n per : Int} (hm c : Int) (w : World) (h : Blk w b t_remset_Sets (setsL n per m1 m2 m3)) (hp : 1 ≤ per) (hn : 1 ≤ n) (hnp : n * per ≤ 4194304) (hr : ¬ (0 ≤ hm ∧ hm < n ∧ 0 ≤ c ∧ c < n * per)) :
    CallC Pr f_remset_Sets_Has [.pointer (some ⟨b, 0, none⟩), .int .i64 hm, .int .i64 c] w (fun v w' => v = .bool false ∧ Fr No w w') := by
  refine call_sound T_ok fun_remset_Sets_Has rfl (by kernel_rfl) rfl (Kp ?_)
  refine CallC_intro (rkey_spec hm c w h hp hn hnp) (fun v w1 ⟨hv, f1⟩ => ?_)
  have hv : v = .tuple #[pairV (0, 0), .int .i64 2] := by
    rcases hv with ⟨a1, a2, a3, a4, _⟩ | ⟨_, hv⟩
    · exact absurd ⟨a1, a2, a3, a4⟩ hr
    · exact hv
  subst hv
  refine NewC_blk (fun p w2 hp2 h2 f2 s2 => ?_)
  refine StN_blk h2 rfl (Nat.le_of_ble_eq_true rfl) (fun w3 h3 f3 s3 => ?_)
  exact ⟨rfl, f1.no (f2.new f3 (fun _ _ e => e) (fun k e => by omega))⟩
set_option maxHeartbeats 1000000 in
theorem Has_gen {b m1 m2 m3 : Nat} {n per : Int} {sp : List SpE} {fi : List FiE} {co : List (Int × Int)} (hm c : Int) (l : List Int) (bc bf : Bool) (fv : Value) (w : World) (h : SetsG w b m1 m2 m3 n per sp fi co) (hp : 1 ≤ per) (hn : 1 ≤ n) (hnp : n * per ≤ 4194304) (hr : 0 ≤ hm ∧ hm < n ∧ 0 ≤ c ∧ c < n * per)
    (hc : (getM (coM co) (hm, c / per)).getD (.bool false) = .bool bc) (hf : (getM (fiM fi) (hm, c / per)).getD (.pointer none) = fv) (hfc : ∀ w', Fr No w w' → CallC Pr f_bits_Set_Has [fv, .int .i64 (c.tmod per)] w' (fun v w'' => v = .bool bf ∧ Fr No w' w''))
    (hl : (spGet sp (hm, c / per) = none ∧ l = []) ∨ ∃ o, spGet sp (hm, c / per) = some o ∧ o.l = l) (hll : l.length ≤ 1000) :
    CallC Pr f_remset_Sets_Has [.pointer (some ⟨b, 0, none⟩), .int .i64 hm, .int .i64 c] w (fun v w' => v = .bool (bc || (bf || decide (c ∈ l))) ∧ Fr No w w') := by
  refine call_sound T_ok fun_remset_Sets_Has rfl (by kernel_rfl) rfl (Kp ?_)
  refine CallC_intro (rkey_spec hm c w h.tab hp hn hnp) (fun v w1 ⟨hv, f1⟩ => ?_)
  have hv : v = .tuple #[pairV (hm, c / per), .int .i64 0] := by
    rcases hv with ⟨_, _, _, _, hv⟩ | ⟨hn', _⟩
    · exact hv
    · exact absurd hr hn'
  subst hv
  refine NewC_blk (fun p w2 hp2 h2 f2 s2 => ?_)
  refine StN_blk h2 rfl (Nat.le_of_ble_eq_true rfl) (fun w3 h3 f3 s3 => ?_)
  have h3 : Blk w3 p t_remset_pair (pairL (hm, c / per)) := h3
  have f13 : Fr No w1 w3 := f2.new f3 (fun _ _ e => e) (fun k e => by omega)
  have F3 := f1.no f13
  have H3 := h.keep F3 (fun _ _ => id) (fun _ _ => id)
  obtain ⟨k, hk⟩ : ∃ k, k = (hm, c / per) := ⟨_, rfl⟩
  rw [← hk] at h3 hc hf hl
  refine AnyC_plan T_ok mixed (planO [0,1,2,3,4,1005,6,7,8,9,10,11,13,14,15,16,17,18,1012,1019,20,21,22,23,24,25,26,28,1027,1029,30,31]) (Old w3) (by kernel_rfl) (by kernel_rfl) (fun _ _ => rfl) (Kp ?_)
  refine LdS_blk H3.tab rfl ?_
  refine LdSN_blk (vs := pairL k) h3 rfl rfl ?_
  refine ⟨?_, trivial⟩
  refine LookN T_ok (kv := pairV) rfl keyP zv_bool (H3.map3.keep (Fr.drew w3) id) k (v := .bool bc) hc ?_
  refine Sd_intro (fun _ _ => rfl) ?_
  refine Br_intro (fun hb => ?_) (fun hb => ?_)
  · refine ⟨?_, trivial⟩
    refine ⟨?_, trivial⟩
    refine ⟨?_, trivial⟩
    refine ⟨?_, trivial⟩
    exact ⟨by rw [hb]; rfl, F3.no (Fr.drew w3)⟩
  refine LdS_blk H3.tab rfl ?_
  refine LdSN_blk (vs := pairL k) h3 rfl rfl ?_
  refine LdS_blk H3.tab rfl ?_
  refine Sd_intro (by omega) ?_
  refine ⟨?_, trivial⟩
  refine LookN T_ok (kv := pairV) rfl keyP zv_p_bits_Set (H3.map2.keep (Fr.drew w3) id) k hf ?_
  refine Sd_intro (fun _ _ => rfl) ?_
  refine ⟨?_, trivial⟩
  refine CallC_intro (hfc w3.drew (F3.no (Fr.drew w3))) (fun v w4 ⟨hv, f4⟩ => ?_)
  subst hv
  have f4 := f4.drewL
  refine Sd_intro f4.old ?_
  refine Br_intro (fun hb2 => ?_) (fun hb2 => ?_)
  · refine ⟨?_, trivial⟩
    refine ⟨?_, trivial⟩
    exact ⟨by rw [hb, hb2]; rfl, F3.no f4⟩
  · refine LdS_blk H3.tab rfl ?_
    refine LdSN_blk (vs := pairL k) h3 rfl rfl ?_
    refine ⟨?_, trivial⟩
    obtain ⟨a, cp, hv, hown, _⟩ := sp_row (H3.keep f4 (fun _ _ => id) (fun _ _ => id)) k hl
    refine LookN T_ok (kv := pairV) rfl keyP zv_s_int (H3.map1.keep f4 id) k hv ?_
    refine Sd_intro f4.old ?_
    refine ⟨?_, trivial⟩
    refine CallC_intro (Contains_spec (.slice a l.length cp) l c w4 hown.ints (by omega)) (fun v w5 ⟨hv, f5⟩ => ?_)
    subst hv
    refine Sd_intro (f4.no f5).old ?_
    exact ⟨by rw [hb, hb2]; rfl, (F3.no f4).no f5⟩
theorem sp_none {sp : List SpE} {k : Int × Int} (h : k ∉ sp.map (·.k)) : spGet sp k = none := by
  cases hh : spGet sp k with
  | none => rfl
  | some o =>
    obtain ⟨ho, hk', _⟩ := spGet_some hh
    exact absurd (List.mem_map.2 ⟨o, ho, hk'⟩) h
theorem Has_RS {w : World} {b : Nat} {B : Nat → Prop} {n per : Int} {A : Abs} (C : RCfg n per) (hm c : Int) (h : RS w b B n per A) :
    CallC Pr f_remset_Sets_Has [.pointer (some ⟨b, 0, none⟩), .int .i64 hm, .int .i64 c] w (fun v w' => v = .bool (hasA n per A hm c) ∧ Fr No w w') := by
  obtain ⟨m1, m2, m3, sp, fi, co, hG, g, hB, hBs⟩ := id h
  have nds : (sp.map (·.k)).Nodup := by rw [← spM_keys]; exact hG.map1.nodup
  unfold hasA
  by_cases hr : 0 ≤ hm ∧ hm < n ∧ 0 ≤ c ∧ c < n * per
  · rw [if_pos hr]
    have hnil : ∀ w', Fr No w w' → CallC Pr f_bits_Set_Has [.pointer none, .int .i64 (c.tmod per)] w' (fun v w'' => v = .bool false ∧ Fr No w' w'') := fun w' _ => Has_nil _ w'
    rcases g.src (hm, c / per) with ⟨hc, eA⟩ | ⟨e, he, hek, hnc, eA⟩ | ⟨⟨e, he, hek, eA⟩, hnc, hnf⟩ | ⟨hns, hnc, hnf, eA⟩
    · rw [eA]
      have hg : getM (coM co) (hm, c / per) = some (.bool true) := (getM_some hG.map3.nodup).2 (List.mem_map.2 ⟨_, hc, rfl⟩)
      have hnf : (hm, c / per) ∉ fi.map (·.k) := fun hh => by
        obtain ⟨x, hx, ex⟩ := List.mem_map.1 hh
        exact g.fc x hx (by rw [ex]; exact hc)
      exact Has_gen hm c [] true false (.pointer none) w hG C.p1 C.n1 C.np hr (by rw [hg]; rfl) (by rw [fi_not hnf]; rfl) hnil (.inl ⟨sp_none (g.cs _ hc), rfl⟩) (by decide)
    · rw [eA]
      have em : c.tmod per = c % per := Int.tmod_eq_emod_of_nonneg hr.2.2.1
      have e0 := Int.emod_nonneg c (show per ≠ 0 by have := C.p1; omega)
      have := Has_gen hm c [] false (e.S (c % per).toNat) (.pointer (some ⟨e.f, 0, none⟩)) w hG C.p1 C.n1 C.np hr (by rw [co_not hnc]; rfl) (by rw [← hek, fi_get hG.map2.nodup he]; rfl) (fun w' f => CallC_mk (Calls.mono (CallC_elim (Has_spec (c.tmod per) w' ((hG.sets e he).keep f id id))) fun e' w'' ⟨v, he', hv, f'⟩ => ⟨v, he', by
        rw [hv]; unfold has; rw [em, decide_eq_true e0]; rfl, f'⟩)) (.inl ⟨sp_none (by rw [← hek]; exact g.fs e he), rfl⟩) (by decide)
      simpa [hasS] using this
    · rw [eA]
      have h4 := (g.spk e he).2.2.2.1
      exact Has_gen hm c e.l false false (.pointer none) w hG C.p1 C.n1 C.np hr (by rw [co_not hnc]; rfl) (by rw [fi_not hnf]; rfl) hnil (.inr ⟨e, by rw [← hek]; exact spGet_of nds he, rfl⟩) (by omega)
    · rw [eA]
      exact Has_gen hm c [] false false (.pointer none) w hG C.p1 C.n1 C.np hr (by rw [co_not hnc]; rfl) (by rw [fi_not hnf]; rfl) hnil (.inl ⟨sp_none hns, rfl⟩) (by decide)
  · rw [if_neg hr]; exact Has_range hm c w hG.tab C.p1 C.n1 C.np hr
end Go.Proofs.YtdhbpklmkibmbaaGreat
