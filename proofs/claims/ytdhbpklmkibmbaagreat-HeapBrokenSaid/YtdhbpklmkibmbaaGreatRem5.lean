/- Layer 11 (remset): Add that makes a source fine. -/
import Derived.Test.YtdhbpklmkibmbaaGreatRem4
namespace Go.Proofs.YtdhbpklmkibmbaaGreat
open Go.Vc

theorem Add_refine {b m1 m2 m3 : Nat} {n per : Int} {sp : List SpE} {fi : List FiE} {co : List (Int × Int)} (hm c : Int) (l : List Int) (w : World) (h : SetsG w b m1 m2 m3 n per sp fi co) (hp : 1 ≤ per) (hn : 1 ≤ n) (hnp : n * per ≤ 4194304) (hr : 0 ≤ hm ∧ hm < n ∧ 0 ≤ c ∧ c < n * per) (hne : hm ≠ c / per)
    (hco : getM (coM co) (hm, c / per) = none) (hfi : getM (fiM fi) (hm, c / per) = none) (hl : (spGet sp (hm, c / per) = none ∧ l = []) ∨ ∃ o, spGet sp (hm, c / per) = some o ∧ o.l = l) (hc : c ∉ l) (h4 : 4 ≤ l.length) (h5 : l.length ≤ 900) (hpos : ∀ x ∈ l, 0 ≤ x) (hi : idxM (fiM fi) (hm, c / per) = none) (hfew : (ofHome hm (fiM fi)).length ≤ 3) :
    CallC Pr f_remset_Sets_Add [.pointer (some ⟨b, 0, none⟩), .int .i64 hm, .int .i64 c] w (fun v w' => v = .tuple #[.bool true, .int .i64 0] ∧ (∃ f r, SetsG w' b m1 m2 m3 n per (delSp sp (hm, c / per)) (fi ++ [⟨(hm, c / per), f, r, setOf per (l ++ [c])⟩]) co ∧ w.heap.size ≤ f ∧ w.heap.size ≤ r) ∧
      Fr (fun x => x = m1 ∨ x = m2 ∨ ∃ o, spGet sp (hm, c / per) = some o ∧ x = o.g) w w') := by
  refine call_sound T_ok fun_remset_Sets_Add rfl (by kernel_rfl) rfl (Kp ?_)
  refine CallC_intro (rkey_spec hm c w h.tab hp hn hnp) (fun v w1 ⟨hv, f1⟩ => ?_)
  have hv : v = .tuple #[pairV (hm, c / per), .int .i64 0] := by
    rcases hv with ⟨_, _, _, _, hv⟩ | ⟨hn', _⟩
    · exact hv
    · exact absurd hr hn'
  subst hv
  refine NewC_blk (fun p w2 hp2 h2 f2 s2 => ?_)
  refine StN_blk h2 rfl (Nat.le_of_ble_eq_true rfl) (fun w3 h3 f3 s3 => ?_)
  have h3 : Blk w3 p t_remset_pair (pairL (hm, c / per)) := h3
  have f13 : Fr No w1 w3 := f2.new f3 (fun _ _ e => e) (fun k e => by omega)
  have F3 := f1.no f13
  have H3 := h.keep F3 (fun _ _ => id) (fun _ _ => id)
  refine LdC_blk h3 rfl ?_
  refine LdC_blk h3 rfl ?_
  refine Br_df hne ?_
  obtain ⟨k, hk⟩ : ∃ k, k = (hm, c / per) := ⟨_, rfl⟩
  rw [← hk] at h3 hco hfi hl hi ⊢
  refine AnyC_plan T_ok mixed (planO [0,1,2,3,4,1005,6]) (Old w3) (by kernel_rfl) (by kernel_rfl) (fun _ _ => rfl) (Kp ?_)
  refine LdS_blk H3.tab rfl ?_
  refine LdSN_blk (vs := pairL k) h3 rfl rfl ?_
  refine ⟨?_, trivial⟩
  refine LookN T_ok (kv := pairV) rfl keyP zv_bool (H3.map3.keep (Fr.drew w3) id) k (v := .bool false) (by rw [hco]; rfl) ?_
  refine Sd_intro (fun _ _ => rfl) ?_
  have H4 := H3.keep (Fr.drew w3) (fun _ _ => id) (fun _ _ => id)
  have h4' := h3.keep (Fr.drew w3) id
  refine AnyC_plan T_ok mixed (planO [0,1,2,3,4,1005,6]) (Old w3.drew) (by kernel_rfl) (by kernel_rfl) (fun _ _ => rfl) (Kp ?_)
  refine LdS_blk H4.tab rfl ?_
  refine LdSN_blk (vs := pairL k) h4' rfl rfl ?_
  refine ⟨?_, trivial⟩
  refine LookN T_ok (kv := pairV) rfl keyP zv_p_bits_Set (H4.map2.keep (Fr.drew w3.drew) id) k (v := .pointer none) (by rw [hfi]; rfl) ?_
  refine Sd_intro (fun _ _ => rfl) ?_
  have H5 := H4.keep (Fr.drew w3.drew) (fun _ _ => id) (fun _ _ => id)
  have h5' := h4'.keep (Fr.drew w3.drew) id
  obtain ⟨a, cp, hv, hown, hblk⟩ := sp_row H5 k hl
  refine AnyC_plan T_ok mixed (planO [0,1,2,3,4,1005,6]) (Old w3.drew.drew) (by kernel_rfl) (by kernel_rfl) (fun _ _ => rfl) (Kp ?_)
  refine LdS_blk H5.tab rfl ?_
  refine LdSN_blk (vs := pairL k) h5' rfl rfl ?_
  refine ⟨?_, trivial⟩
  refine LookN T_ok (kv := pairV) rfl keyP zv_s_int (H5.map1.keep (Fr.drew w3.drew.drew) id) k hv ?_
  refine Sd_intro (fun _ _ => rfl) ?_
  have f35 : Fr No w3 w3.drew.drew.drew := ((Fr.drew w3).no (Fr.drew w3.drew)).no (Fr.drew w3.drew.drew)
  have s35 : w3.drew.drew.drew.heap.size = w3.heap.size := rfl
  generalize w3.drew.drew.drew = w6 at f35 s35 ⊢
  have H6 := H3.keep f35 (fun _ _ => id) (fun _ _ => id)
  have h6 := h3.keep f35 id
  have F6 := F3.no f35
  have hown6 : Own w6 0 (.slice a l.length cp) l := by
    obtain ⟨a2, cp2, hv2, ho2, _⟩ := sp_row H6 k hl
    rw [hv] at hv2
    injection hv2 with e1 _ e2
    rw [e1, e2]; exact ho2
  refine CallC_intro (Contains_spec (.slice a l.length cp) l c w6 hown6.ints (by omega)) (fun v w7 ⟨hv7, f7⟩ => ?_)
  subst hv7
  refine Br_df hc ?_
  refine Br_df (show ¬ (l.length : Int) < 4 by omega) ?_
  have H7 := H6.keep f7 (fun _ _ => id) (fun _ _ => id)
  have h7 := h6.keep f7 id
  have F7 := F6.no f7
  have pb : p ∉ restB b m1 m2 m3 fi ∧ ∀ e ∈ sp, p ≠ e.g := by
    have s1 := f1.size
    refine ⟨fun hm => ?_, fun e he hp => ?_⟩
    · have := h.rest_lt p hm; omega
    · have := spV_lt (h.rows e he); omega
  refine AnyC_plan T_ok mixed (planO [0,1,2,3,1004,1005,1006]) (fun w' => Blk w' p t_remset_pair (pairL k)) (by kernel_rfl) (by kernel_rfl) (h7.keep (Fr.drew w7) id) (Kp ?_)
  refine LdSN_of (vs := pairL k) (fun w' hw => hw) rfl rfl ?_
  refine ⟨?_, trivial⟩
  refine NewC_blk (fun x w8 hx h8 f8 s8 => ?_)
  have h8 : Blk w8 x t_int [.int .i64 c] := h8
  have f78 : Fr No w7 w8 := (Fr.drew w7).no f8
  have hp8 := h7.keep f78 id
  refine Sd_intro hp8 ?_
  refine ⟨?_, trivial⟩
  have H8 := H7.keep f78 (fun _ _ => id) (fun _ _ => id)
  have own8 : w8.ownsRow 0 t_int 1 (.slice a l.length cp) l.length (ints l) := (hown6.keep f7 (fun _ _ => id)).keep f78 (fun _ _ => id)
  refine ApL T_ok (base := 0) (xs := ints l) (news := [.int .i64 c]) rfl rfl rfl (by decide) own8 (Nat.zero_le _) h8 rfl rfl rfl (by omega) (show (l.length + 1) * 8 ≤ _ by omega) (fun v' w9 own9 f9 loc => ?_)
  have own9 : Own w9 0 v' (l ++ [c]) := by
    unfold Own
    rw [ints_append, List.length_append]; exact own9
  have hF9 : ∀ y, (Value.slice a l.length cp).ownBlock = some y → ∃ o, spGet sp k = some o ∧ y = o.g := fun y e => (hblk y).1 e
  have nb9 : ∀ y ∈ restB b m1 m2 m3 fi, ¬ (Value.slice a l.length cp).ownBlock = some y := fun y hy e => by
    obtain ⟨o, ho, ey⟩ := hF9 y e
    exact h.dj o (spGet_some ho).1 (by rw [← ey]; exact hy)
  have hp9 := hp8.keep f9 (fun e => by
    obtain ⟨o, ho, ey⟩ := hF9 p e
    exact pb.2 o (spGet_some ho).1 ey)
  refine Sd_intro hp9 ?_
  refine ⟨?_, trivial⟩
  have F8 : Fr No w w8 := F7.no f78
  have F9 : Fr (fun x => ∃ o, spGet sp k = some o ∧ x = o.g) w w9 := F8.noL (f9.weak (fun y _ e => hF9 y e))
  have k1 : k.1 = hm := by rw [hk]
  have hper : per ≤ 4194304 := by have := Int.mul_le_mul_of_nonneg_right hn (show (0 : Int) ≤ per by omega); omega
  refine CallC_intro (refine_few k v' (l ++ [c]) w w9 h F9 (H8.map1.keep f9 (nb9 m1 (by simp [restB]))) own9 (fun y e e2 => ?_) (fun y hy => ?_) (by rw [List.length_append]; show l.length + 1 ≤ 1000; omega) hp hper hi (by rw [k1]; exact hfew)) (fun v w10 ⟨_, hex, f10, g10⟩ => ?_)
  · rcases loc with e3 | e3
    · exact nb9 m1 (by simp [restB]) (by rw [← e3, e, e2])
    · rw [e3] at e
      injection e with e
      have := H8.map1.lt
      omega
  · rcases List.mem_append.1 hy with h | h
    · exact hpos y h
    · have : y = c := by simpa using h
      omega
  have hp10 : Blk w10 p t_remset_pair (pairL k) := hp9.keep g10 (fun e => by
    rcases e with e | e
    · exact pb.1 (by rw [e]; simp [restB])
    · exact pb.1 (by rw [e]; simp [restB]))
  refine Sd_intro hp10 ?_
  exact ⟨rfl, hex, f10⟩
theorem Add_shape {b m1 m2 m3 : Nat} {n per : Int} (hm c : Int) (w : World) (h : Blk w b t_remset_Sets (setsL n per m1 m2 m3)) (hp : 1 ≤ per) (hn : 1 ≤ n) (hnp : n * per ≤ 4194304) (hr : 0 ≤ hm ∧ hm < n ∧ 0 ≤ c ∧ c < n * per) (he : hm = c / per) :
    CallC Pr f_remset_Sets_Add [.pointer (some ⟨b, 0, none⟩), .int .i64 hm, .int .i64 c] w (fun v w' => v = .tuple #[.bool false, .int .i64 3] ∧ Fr No w w') := by
  refine call_sound T_ok fun_remset_Sets_Add rfl (by kernel_rfl) rfl (Kp ?_)
  refine CallC_intro (rkey_spec hm c w h hp hn hnp) (fun v w1 ⟨hv, f1⟩ => ?_)
  have hv : v = .tuple #[pairV (hm, c / per), .int .i64 0] := by
    rcases hv with ⟨_, _, _, _, hv⟩ | ⟨hn', _⟩
    · exact hv
    · exact absurd hr hn'
  subst hv
  refine NewC_blk (fun p w2 hp2 h2 f2 s2 => ?_)
  refine StN_blk h2 rfl (Nat.le_of_ble_eq_true rfl) (fun w3 h3 f3 s3 => ?_)
  have h3 : Blk w3 p t_remset_pair (pairL (hm, c / per)) := h3
  have f13 : Fr No w1 w3 := f2.new f3 (fun _ _ e => e) (fun k e => by omega)
  refine LdC_blk h3 rfl ?_
  refine LdC_blk h3 rfl ?_
  refine Br_dt he ?_
  exact ⟨rfl, f1.no f13⟩
end Go.Proofs.YtdhbpklmkibmbaaGreat
