/- Layer 11 (remset): Way and Has of a fine source; the cards of a home that has one fine source alone. -/
import Derived.Test.YtdhbpklmkibmbaaGreatRem5
import Derived.Test.YtdhbpklmkibmbaaGreatSlSort
namespace Go.Proofs.YtdhbpklmkibmbaaGreat
open Go.Vc

theorem fi_get {fi : List FiE} {e : FiE} (nd : ((fiM fi).map (·.1)).Nodup) (h : e ∈ fi) : getM (fiM fi) e.k = some (.pointer (some ⟨e.f, 0, none⟩)) := (getM_some nd).2 (List.mem_map.2 ⟨e, h, rfl⟩)
theorem Has_fine {b m1 m2 m3 : Nat} {n per : Int} {sp : List SpE} {fi : List FiE} {co : List (Int × Int)} (hm c : Int) (e : FiE) (w : World) (h : SetsG w b m1 m2 m3 n per sp fi co) (hp : 1 ≤ per) (hn : 1 ≤ n) (hnp : n * per ≤ 4194304) (hr : 0 ≤ hm ∧ hm < n ∧ 0 ≤ c ∧ c < n * per)
    (he : e ∈ fi) (ek : e.k = (hm, c / per)) (hco : getM (coM co) (hm, c / per) = none) (hsp : getM (spM sp) (hm, c / per) = none) :
    CallC Pr f_remset_Sets_Has [.pointer (some ⟨b, 0, none⟩), .int .i64 hm, .int .i64 c] w (fun v w' => v = .bool (e.S (c % per).toNat) ∧ Fr No w w') := by
  refine call_sound T_ok fun_remset_Sets_Has rfl (by kernel_rfl) rfl (Kp ?_)
  refine CallC_intro (rkey_spec hm c w h.tab hp hn hnp) (fun v w1 ⟨hv, f1⟩ => ?_)
  have hv : v = .tuple #[pairV (hm, c / per), .int .i64 0] := by
    rcases hv with ⟨_, _, _, _, hv⟩ | ⟨hn', _⟩
    · exact hv
    · exact absurd hr hn'
  subst hv
  refine NewC_blk (fun p w2 hp2 h2 f2 s2 => ?_)
  refine StN_blk h2 rfl (Nat.le_of_ble_eq_true rfl) (fun w3 h3 f3 s3 => ?_)
  have h3 : Blk w3 p t_remset_pair (pairL (hm, c / per)) := h3
  have f13 : Fr No w1 w3 := f2.new f3 (fun _ _ e => e) (fun k e => by omega)
  have F3 := f1.no f13
  have H3 := h.keep F3 (fun _ _ => id) (fun _ _ => id)
  obtain ⟨k, hk⟩ : ∃ k, k = (hm, c / per) := ⟨_, rfl⟩
  rw [← hk] at h3 hco ek hsp
  have em : c.tmod per = c % per := Int.tmod_eq_emod_of_nonneg hr.2.2.1
  have e0 := Int.emod_nonneg c (show per ≠ 0 by omega)
  have ehas : has e.S (c.tmod per) = e.S (c % per).toNat := by
    unfold has
    rw [em, decide_eq_true e0]; rfl
  refine AnyC_plan T_ok mixed (planO [0,1,2,3,4,1005,6,7,8,9,10,11,13,14,15,16,17,18,1012,1019,20,21,22,23,24,25,26,28,1027,1029,30,31]) (Old w3) (by kernel_rfl) (by kernel_rfl) (fun _ _ => rfl) (Kp ?_)
  refine LdS_blk H3.tab rfl ?_
  refine LdSN_blk (vs := pairL k) h3 rfl rfl ?_
  refine ⟨?_, trivial⟩
  refine LookN T_ok (kv := pairV) rfl keyP zv_bool (H3.map3.keep (Fr.drew w3) id) k (v := .bool false) (by rw [hco]; rfl) ?_
  refine Sd_intro (fun _ _ => rfl) ?_
  refine LdS_blk H3.tab rfl ?_
  refine LdSN_blk (vs := pairL k) h3 rfl rfl ?_
  refine LdS_blk H3.tab rfl ?_
  refine Sd_intro (by omega) ?_
  refine ⟨?_, trivial⟩
  refine LookN T_ok (kv := pairV) rfl keyP zv_p_bits_Set (H3.map2.keep (Fr.drew w3) id) k (v := .pointer (some ⟨e.f, 0, none⟩)) (by rw [← ek, fi_get h.map2.nodup he]; rfl) ?_
  refine Sd_intro (fun _ _ => rfl) ?_
  refine ⟨?_, trivial⟩
  refine CallC_intro (Has_spec (c.tmod per) w3.drew ((H3.sets e he).keep (Fr.drew w3) id id)) (fun v w4 ⟨hv, f4⟩ => ?_)
  rw [ehas] at hv
  subst hv
  have f4 := f4.drewL
  refine Sd_intro f4.old ?_
  refine Br_intro (fun hb => ?_) (fun hb => ?_)
  · refine ⟨?_, trivial⟩
    refine ⟨?_, trivial⟩
    exact ⟨by rw [hb]; rfl, F3.no f4⟩
  · refine LdS_blk H3.tab rfl ?_
    refine LdSN_blk (vs := pairL k) h3 rfl rfl ?_
    refine ⟨?_, trivial⟩
    refine LookN T_ok (kv := pairV) rfl keyP zv_s_int (H3.map1.keep f4 id) k (v := .slice none 0 0) (by rw [hsp]; rfl) ?_
    refine Sd_intro f4.old ?_
    refine ⟨?_, trivial⟩
    refine CallC_intro (Contains_spec (.slice none 0 0) [] c w4 ⟨none, 0, rfl, .inl rfl⟩ (by decide)) (fun v w5 ⟨hv, f5⟩ => ?_)
    subst hv
    refine Sd_intro (f4.no f5).old ?_
    exact ⟨by rw [hb]; rfl, (F3.no f4).no f5⟩
end Go.Proofs.YtdhbpklmkibmbaaGreat
