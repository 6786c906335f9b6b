/- Layer 11 (remset): Add in every case. -/
import Derived.Test.YtdhbpklmkibmbaaGreatRem10
namespace Go.Proofs.YtdhbpklmkibmbaaGreat
open Go.Vc

theorem Add_full {b m1 m2 m3 : Nat} {n per : Int} {sp : List SpE} {fi : List FiE} {co : List (Int × Int)} (hm c : Int) (l : List Int) (w : World) (h : SetsG w b m1 m2 m3 n per sp fi co) (hp : 1 ≤ per) (hn : 1 ≤ n) (hnp : n * per ≤ 4194304) (hr : 0 ≤ hm ∧ hm < n ∧ 0 ≤ c ∧ c < n * per) (hne : hm ≠ c / per)
    (hco : getM (coM co) (hm, c / per) = none) (hfi : getM (fiM fi) (hm, c / per) = none) (hl : (spGet sp (hm, c / per) = none ∧ l = []) ∨ ∃ o, spGet sp (hm, c / per) = some o ∧ o.l = l) (hc : c ∉ l) (h4 : 4 ≤ l.length) (h5 : l.length ≤ 900) (hpos : ∀ x ∈ l, 0 ≤ x) (hi : idxM (fiM fi) (hm, c / per) = none) (hn6 : n ≤ 65536) (hfive : (homeK hm fi).length ≤ 4) (hsrc : ∀ e ∈ fi, 0 ≤ e.k.2 ∧ e.k.2 ≤ 65536) (hfc : ∀ e ∈ fi, e.k ∉ co) (hkc : (hm, c / per) ∉ co) :
    CallC Pr f_remset_Sets_Add [.pointer (some ⟨b, 0, none⟩), .int .i64 hm, .int .i64 c] w (fun v w' => v = .tuple #[.bool true, .int .i64 0] ∧ (∃ f r fi1, fi1 = fi ++ [⟨(hm, c / per), f, r, setOf per (l ++ [c])⟩] ∧ w.heap.size ≤ f ∧ w.heap.size ≤ r ∧
        (((homeK hm fi1).length ≤ 4 ∧ SetsG w' b m1 m2 m3 n per (delSp sp (hm, c / per)) fi1 co) ∨ (4 < (homeK hm fi1).length ∧ ∃ x L, (x :: L).Perm (homeK hm fi1) ∧ (x :: L).Pairwise (fun a b => a.2 ≤ b.2) ∧ SetsG w' b m1 m2 m3 n per (delSp sp (hm, c / per)) (delFi fi1 (maxP (szF per fi1) x L)) (co ++ [maxP (szF per fi1) x L])))) ∧
      Fr (fun x => x = m1 ∨ x = m2 ∨ x = m3 ∨ ∃ o, spGet sp (hm, c / per) = some o ∧ x = o.g) w w') := by
  refine call_sound T_ok fun_remset_Sets_Add rfl (by kernel_rfl) rfl (Kp ?_)
  refine CallC_intro (rkey_spec hm c w h.tab hp hn hnp) (fun v w1 ⟨hv, f1⟩ => ?_)
  have hv : v = .tuple #[pairV (hm, c / per), .int .i64 0] := by
    rcases hv with ⟨_, _, _, _, hv⟩ | ⟨hn', _⟩
    · exact hv
    · exact absurd hr hn'
  subst hv
  refine NewC_blk (fun p w2 hp2 h2 f2 s2 => ?_)
  refine StN_blk h2 rfl (Nat.le_of_ble_eq_true rfl) (fun w3 h3 f3 s3 => ?_)
  have h3 : Blk w3 p t_remset_pair (pairL (hm, c / per)) := h3
  have f13 : Fr No w1 w3 := f2.new f3 (fun _ _ e => e) (fun k e => by omega)
  have F3 := f1.no f13
  have H3 := h.keep F3 (fun _ _ => id) (fun _ _ => id)
  refine LdC_blk h3 rfl ?_
  refine LdC_blk h3 rfl ?_
  refine Br_df hne ?_
  obtain ⟨k, hk⟩ : ∃ k, k = (hm, c / per) := ⟨_, rfl⟩
  have hks : 0 ≤ k.2 ∧ k.2 ≤ 65536 := by
    rw [hk]
    have := Int.ediv_nonneg hr.2.2.1 (show 0 ≤ per by omega)
    have : c / per < n := Int.ediv_lt_of_lt_mul (by omega) hr.2.2.2
    show 0 ≤ c / per ∧ c / per ≤ 65536
    omega
  rw [← hk] at h3 hco hfi hl hi hkc ⊢
  refine AnyC_plan T_ok mixed (planO [0,1,2,3,4,1005,6]) (Old w3) (by kernel_rfl) (by kernel_rfl) (fun _ _ => rfl) (Kp ?_)
  refine LdS_blk H3.tab rfl ?_
  refine LdSN_blk (vs := pairL k) h3 rfl rfl ?_
  refine ⟨?_, trivial⟩
  refine LookN T_ok (kv := pairV) rfl keyP zv_bool (H3.map3.keep (Fr.drew w3) id) k (v := .bool false) (by rw [hco]; rfl) ?_
  refine Sd_intro (fun _ _ => rfl) ?_
  have H4 := H3.keep (Fr.drew w3) (fun _ _ => id) (fun _ _ => id)
  have h4' := h3.keep (Fr.drew w3) id
  refine AnyC_plan T_ok mixed (planO [0,1,2,3,4,1005,6]) (Old w3.drew) (by kernel_rfl) (by kernel_rfl) (fun _ _ => rfl) (Kp ?_)
  refine LdS_blk H4.tab rfl ?_
  refine LdSN_blk (vs := pairL k) h4' rfl rfl ?_
  refine ⟨?_, trivial⟩
  refine LookN T_ok (kv := pairV) rfl keyP zv_p_bits_Set (H4.map2.keep (Fr.drew w3.drew) id) k (v := .pointer none) (by rw [hfi]; rfl) ?_
  refine Sd_intro (fun _ _ => rfl) ?_
  have H5 := H4.keep (Fr.drew w3.drew) (fun _ _ => id) (fun _ _ => id)
  have h5' := h4'.keep (Fr.drew w3.drew) id
  obtain ⟨a, cp, hv, hown, hblk⟩ := sp_row H5 k hl
  refine AnyC_plan T_ok mixed (planO [0,1,2,3,4,1005,6]) (Old w3.drew.drew) (by kernel_rfl) (by kernel_rfl) (fun _ _ => rfl) (Kp ?_)
  refine LdS_blk H5.tab rfl ?_
  refine LdSN_blk (vs := pairL k) h5' rfl rfl ?_
  refine ⟨?_, trivial⟩
  refine LookN T_ok (kv := pairV) rfl keyP zv_s_int (H5.map1.keep (Fr.drew w3.drew.drew) id) k hv ?_
  refine Sd_intro (fun _ _ => rfl) ?_
  have f35 : Fr No w3 w3.drew.drew.drew := ((Fr.drew w3).no (Fr.drew w3.drew)).no (Fr.drew w3.drew.drew)
  have s35 : w3.drew.drew.drew.heap.size = w3.heap.size := rfl
  generalize w3.drew.drew.drew = w6 at f35 s35 ⊢
  have H6 := H3.keep f35 (fun _ _ => id) (fun _ _ => id)
  have h6 := h3.keep f35 id
  have F6 := F3.no f35
  have hown6 : Own w6 0 (.slice a l.length cp) l := by
    obtain ⟨a2, cp2, hv2, ho2, _⟩ := sp_row H6 k hl
    rw [hv] at hv2
    injection hv2 with e1 _ e2
    rw [e1, e2]; exact ho2
  refine CallC_intro (Contains_spec (.slice a l.length cp) l c w6 hown6.ints (by omega)) (fun v w7 ⟨hv7, f7⟩ => ?_)
  subst hv7
  refine Br_df hc ?_
  refine Br_df (show ¬ (l.length : Int) < 4 by omega) ?_
  have H7 := H6.keep f7 (fun _ _ => id) (fun _ _ => id)
  have h7 := h6.keep f7 id
  have F7 := F6.no f7
  have pb : p ∉ restB b m1 m2 m3 fi ∧ ∀ e ∈ sp, p ≠ e.g := by
    have s1 := f1.size
    refine ⟨fun hm => ?_, fun e he hp => ?_⟩
    · have := h.rest_lt p hm; omega
    · have := spV_lt (h.rows e he); omega
  refine AnyC_plan T_ok mixed (planO [0,1,2,3,1004,1005,1006]) (fun w' => Blk w' p t_remset_pair (pairL k)) (by kernel_rfl) (by kernel_rfl) (h7.keep (Fr.drew w7) id) (Kp ?_)
  refine LdSN_of (vs := pairL k) (fun w' hw => hw) rfl rfl ?_
  refine ⟨?_, trivial⟩
  refine NewC_blk (fun x w8 hx h8 f8 s8 => ?_)
  have h8 : Blk w8 x t_int [.int .i64 c] := h8
  have f78 : Fr No w7 w8 := (Fr.drew w7).no f8
  have hp8 := h7.keep f78 id
  refine Sd_intro hp8 ?_
  refine ⟨?_, trivial⟩
  have H8 := H7.keep f78 (fun _ _ => id) (fun _ _ => id)
  have own8 : w8.ownsRow 0 t_int 1 (.slice a l.length cp) l.length (ints l) := (hown6.keep f7 (fun _ _ => id)).keep f78 (fun _ _ => id)
  refine ApL T_ok (base := 0) (xs := ints l) (news := [.int .i64 c]) rfl rfl rfl (by decide) own8 (Nat.zero_le _) h8 rfl rfl rfl (by omega) (show (l.length + 1) * 8 ≤ _ by omega) (fun v' w9 own9 f9 loc => ?_)
  have own9 : Own w9 0 v' (l ++ [c]) := by
    unfold Own
    rw [ints_append, List.length_append]; exact own9
  have hF9 : ∀ y, (Value.slice a l.length cp).ownBlock = some y → ∃ o, spGet sp k = some o ∧ y = o.g := fun y e => (hblk y).1 e
  have nb9 : ∀ y ∈ restB b m1 m2 m3 fi, ¬ (Value.slice a l.length cp).ownBlock = some y := fun y hy e => by
    obtain ⟨o, ho, ey⟩ := hF9 y e
    exact h.dj o (spGet_some ho).1 (by rw [← ey]; exact hy)
  have hp9 := hp8.keep f9 (fun e => by
    obtain ⟨o, ho, ey⟩ := hF9 p e
    exact pb.2 o (spGet_some ho).1 ey)
  refine Sd_intro hp9 ?_
  refine ⟨?_, trivial⟩
  have F8 : Fr No w w8 := F7.no f78
  have F9 : Fr (fun x => ∃ o, spGet sp k = some o ∧ x = o.g) w w9 := F8.noL (f9.weak (fun y _ e => hF9 y e))
  have k1 : k.1 = hm := by rw [hk]
  rw [← k1] at hfive
  have hper : per ≤ 4194304 := by have := Int.mul_le_mul_of_nonneg_right hn (show (0 : Int) ≤ per by omega); omega
  refine CallC_intro (refine_any k v' (l ++ [c]) w w9 h F9 (H8.map1.keep f9 (nb9 m1 (by simp [restB]))) own9 (fun y e e2 => ?_) (fun y hy => ?_) (by rw [List.length_append]; show l.length + 1 ≤ 1000; omega) hp hper hi hfive hsrc hks hfc hkc) (fun v w10 ⟨_, hex, f10, g10⟩ => ?_)
  · rcases loc with e3 | e3
    · exact nb9 m1 (by simp [restB]) (by rw [← e3, e, e2])
    · rw [e3] at e
      injection e with e
      have := H8.map1.lt
      omega
  · rcases List.mem_append.1 hy with h | h
    · exact hpos y h
    · have : y = c := by simpa using h
      omega
  have hp10 : Blk w10 p t_remset_pair (pairL k) := hp9.keep g10 (fun e => by
    rcases e with e | e | e
    · exact pb.1 (by rw [e]; simp [restB])
    · exact pb.1 (by rw [e]; simp [restB])
    · exact pb.1 (by rw [e]; simp [restB]))
  refine Sd_intro hp10 ?_
  rw [k1] at hex
  exact ⟨rfl, hex, f10⟩
theorem Add_co {b m1 m2 m3 : Nat} {n per : Int} {sp : List SpE} {fi : List FiE} {co : List (Int × Int)} (hm c : Int) (w : World) (h : SetsG w b m1 m2 m3 n per sp fi co) (hp : 1 ≤ per) (hn : 1 ≤ n) (hnp : n * per ≤ 4194304) (hr : 0 ≤ hm ∧ hm < n ∧ 0 ≤ c ∧ c < n * per) (hne : hm ≠ c / per)
    (hco : (hm, c / per) ∈ co) :
    CallC Pr f_remset_Sets_Add [.pointer (some ⟨b, 0, none⟩), .int .i64 hm, .int .i64 c] w (fun v w' => v = .tuple #[.bool false, .int .i64 0] ∧ Fr No w w') := by
  refine call_sound T_ok fun_remset_Sets_Add rfl (by kernel_rfl) rfl (Kp ?_)
  refine CallC_intro (rkey_spec hm c w h.tab hp hn hnp) (fun v w1 ⟨hv, f1⟩ => ?_)
  have hv : v = .tuple #[pairV (hm, c / per), .int .i64 0] := by
    rcases hv with ⟨_, _, _, _, hv⟩ | ⟨hn', _⟩
    · exact hv
    · exact absurd hr hn'
  subst hv
  refine NewC_blk (fun p w2 hp2 h2 f2 s2 => ?_)
  refine StN_blk h2 rfl (Nat.le_of_ble_eq_true rfl) (fun w3 h3 f3 s3 => ?_)
  have h3 : Blk w3 p t_remset_pair (pairL (hm, c / per)) := h3
  have f13 : Fr No w1 w3 := f2.new f3 (fun _ _ e => e) (fun k e => by omega)
  have F3 := f1.no f13
  have H3 := h.keep F3 (fun _ _ => id) (fun _ _ => id)
  refine LdC_blk h3 rfl ?_
  refine LdC_blk h3 rfl ?_
  refine Br_df hne ?_
  obtain ⟨k, hk⟩ : ∃ k, k = (hm, c / per) := ⟨_, rfl⟩
  rw [← hk] at h3 hco
  have hg : getM (coM co) k = some (.bool true) := (getM_some h.map3.nodup).2 (List.mem_map.2 ⟨k, hco, rfl⟩)
  refine AnyC_plan T_ok mixed (planO [0,1,2,3,4,1005,6]) (Old w3) (by kernel_rfl) (by kernel_rfl) (fun _ _ => rfl) (Kp ?_)
  refine LdS_blk H3.tab rfl ?_
  refine LdSN_blk (vs := pairL k) h3 rfl rfl ?_
  refine ⟨?_, trivial⟩
  refine LookN T_ok (kv := pairV) rfl keyP zv_bool (H3.map3.keep (Fr.drew w3) id) k (v := .bool true) (by rw [hg]; rfl) ?_
  refine Sd_intro (fun _ _ => rfl) ?_
  exact ⟨rfl, F3.no (Fr.drew w3)⟩
def updF (fi : List FiE) (k : Int × Int) (j : Nat) : List FiE := fi.map fun e => if e.k = k then { e with S := bput e.S j } else e
theorem updF_fiM (fi : List FiE) (k : Int × Int) (j : Nat) : fiM (updF fi k j) = fiM fi := by
  unfold fiM updF
  rw [List.map_map]
  refine List.map_congr_left fun e _ => ?_
  simp only [Function.comp]
  split <;> rfl
theorem updF_rest (b m1 m2 m3 : Nat) (fi : List FiE) (k : Int × Int) (j : Nat) : restB b m1 m2 m3 (updF fi k j) = restB b m1 m2 m3 fi := by
  unfold restB updF
  rw [List.flatMap_map]
  congr 4
  congr 1
  funext e
  split <;> rfl
theorem flat_apart {y e : FiE} : ∀ fi : List FiE, (fi.flatMap fun e => [e.f, e.r]).Nodup → y ∈ fi → e ∈ fi → y ≠ e → y.f ≠ e.r ∧ y.r ≠ e.r := by
  intro fi
  induction fi with
  | nil => intro _ h; cases h
  | cons z fi ih =>
    intro nd hy he hne
    have nd : (z.f :: z.r :: fi.flatMap fun e => [e.f, e.r]).Nodup := nd
    simp only [List.nodup_cons, List.mem_cons, not_or] at nd
    obtain ⟨⟨n1, n2⟩, n3, n4⟩ := nd
    have inm : ∀ x ∈ fi, x.f ∈ (fi.flatMap fun e => [e.f, e.r]) ∧ x.r ∈ (fi.flatMap fun e => [e.f, e.r]) := fun x hx => ⟨List.mem_flatMap.2 ⟨x, hx, by simp⟩, List.mem_flatMap.2 ⟨x, hx, by simp⟩⟩
    rcases List.mem_cons.1 hy with hy1 | hy1
    · rcases List.mem_cons.1 he with he1 | he1
      · exact absurd (hy1.trans he1.symm) hne
      · rw [hy1]; exact ⟨fun c => n2 (c ▸ (inm e he1).2), fun c => n3 (c ▸ (inm e he1).2)⟩
    · rcases List.mem_cons.1 he with he1 | he1
      · rw [he1]; exact ⟨fun c => n3 (c ▸ (inm y hy1).1), fun c => n3 (c ▸ (inm y hy1).2)⟩
      · exact ih n4 hy1 he1 hne
theorem SetsG.putF {w w' : World} {b m1 m2 m3 : Nat} {n per : Int} {sp : List SpE} {fi : List FiE} {co : List (Int × Int)} (h : SetsG w b m1 m2 m3 n per sp fi co) {e : FiE} {j : Nat} (he : e ∈ fi) (f : Fr (· = e.r) w w') (hS : IsBits w' e.f e.r per (bput e.S j)) :
    SetsG w' b m1 m2 m3 n per sp (updF fi e.k j) co := by
  have nd : (fi.map (·.k)).Nodup := by rw [← fiM_keys]; exact h.map2.nodup
  have hnd := h.rs
  have hx : ∀ x ∈ [b, m1, m2, m3], x ≠ e.r := by
    intro x hx e1
    have hm : e.r ∈ fi.flatMap fun e => [e.f, e.r] := List.mem_flatMap.2 ⟨e, he, by simp⟩
    unfold restB at hnd
    simp only [List.nodup_cons, List.mem_cons, not_or] at hnd
    obtain ⟨⟨n1, n2, n3, n4⟩, ⟨n5, n6, n7⟩, ⟨n8, n9⟩, n10, n11⟩ := hnd
    simp at hx
    rcases hx with rfl | rfl | rfl | rfl
    · exact n4 (e1 ▸ hm)
    · exact n7 (e1 ▸ hm)
    · exact n9 (e1 ▸ hm)
    · exact n10 (e1 ▸ hm)
  have hdif : ∀ y ∈ fi, y.k ≠ e.k → y.f ≠ e.r ∧ y.r ≠ e.r := fun y hy hk => by
    have hfl : (fi.flatMap fun e => [e.f, e.r]).Nodup := by
      unfold restB at hnd
      simp only [List.nodup_cons] at hnd
      exact hnd.2.2.2.2
    exact flat_apart fi hfl hy he (fun c => hk (by rw [c]))
  refine ⟨h.tab.keep f (hx b (by simp)), h.map1.keep f (hx m1 (by simp)), by rw [updF_fiM]; exact h.map2.keep f (hx m2 (by simp)), h.map3.keep f (hx m3 (by simp)), fun x hx => own_keepV (h.rows x hx) f (fun y hy e1 => ?_), fun y hy => ?_, h.gs, by rw [updF_rest]; exact h.rs, by rw [updF_rest]; exact h.dj⟩
  · injection hy with hy
    have hy : x.g = y := hy
    refine h.dj x hx ?_
    rw [hy, e1]
    unfold restB
    simp only [List.mem_cons, List.mem_flatMap]
    exact .inr (.inr (.inr (.inr ⟨e, he, by simp⟩)))
  · obtain ⟨z, hz, ez⟩ := List.mem_map.1 hy
    by_cases c : z.k = e.k
    · rw [if_pos c] at ez
      have : z = e := by
        obtain ⟨i, hi, ei⟩ := List.getElem_of_mem hz
        obtain ⟨q, hq, eq⟩ := List.getElem_of_mem he
        by_cases hiq : i = q
        · subst hiq; rw [← ei, eq]
        · exfalso
          have hp := List.pairwise_iff_getElem.1 nd
          rcases Nat.lt_or_gt_of_ne hiq with c1 | c1
          · exact hp i q (by simpa using hi) (by simpa using hq) c1 (by simp [ei, eq, c])
          · exact hp q i (by simpa using hq) (by simpa using hi) c1 (by simp [ei, eq, c])
      subst this
      subst ez
      exact hS
    · rw [if_neg c] at ez
      subst ez
      exact (h.sets z hz).keep f (hdif z hz c).1 (hdif z hz c).2
theorem Add_fi {b m1 m2 m3 : Nat} {n per : Int} {sp : List SpE} {fi : List FiE} {co : List (Int × Int)} (hm c : Int) (e : FiE) (w : World) (h : SetsG w b m1 m2 m3 n per sp fi co) (hp : 1 ≤ per) (hn : 1 ≤ n) (hnp : n * per ≤ 4194304) (hr : 0 ≤ hm ∧ hm < n ∧ 0 ≤ c ∧ c < n * per) (hne : hm ≠ c / per)
    (hco : getM (coM co) (hm, c / per) = none) (he : e ∈ fi) (ek : e.k = (hm, c / per)) :
    CallC Pr f_remset_Sets_Add [.pointer (some ⟨b, 0, none⟩), .int .i64 hm, .int .i64 c] w (fun v w' => v = .tuple #[.bool (!e.S (c % per).toNat), .int .i64 0] ∧ SetsG w' b m1 m2 m3 n per sp (updF fi (hm, c / per) (c % per).toNat) co ∧ Fr (· = e.r) w w') := by
  refine call_sound T_ok fun_remset_Sets_Add rfl (by kernel_rfl) rfl (Kp ?_)
  refine CallC_intro (rkey_spec hm c w h.tab hp hn hnp) (fun v w1 ⟨hv, f1⟩ => ?_)
  have hv : v = .tuple #[pairV (hm, c / per), .int .i64 0] := by
    rcases hv with ⟨_, _, _, _, hv⟩ | ⟨hn', _⟩
    · exact hv
    · exact absurd hr hn'
  subst hv
  refine NewC_blk (fun p w2 hp2 h2 f2 s2 => ?_)
  refine StN_blk h2 rfl (Nat.le_of_ble_eq_true rfl) (fun w3 h3 f3 s3 => ?_)
  have h3 : Blk w3 p t_remset_pair (pairL (hm, c / per)) := h3
  have f13 : Fr No w1 w3 := f2.new f3 (fun _ _ e => e) (fun k e => by omega)
  have F3 := f1.no f13
  have H3 := h.keep F3 (fun _ _ => id) (fun _ _ => id)
  refine LdC_blk h3 rfl ?_
  refine LdC_blk h3 rfl ?_
  refine Br_df hne ?_
  obtain ⟨k, hk⟩ : ∃ k, k = (hm, c / per) := ⟨_, rfl⟩
  rw [← hk] at h3 hco ek ⊢
  refine AnyC_plan T_ok mixed (planO [0,1,2,3,4,1005,6]) (Old w3) (by kernel_rfl) (by kernel_rfl) (fun _ _ => rfl) (Kp ?_)
  refine LdS_blk H3.tab rfl ?_
  refine LdSN_blk (vs := pairL k) h3 rfl rfl ?_
  refine ⟨?_, trivial⟩
  refine LookN T_ok (kv := pairV) rfl keyP zv_bool (H3.map3.keep (Fr.drew w3) id) k (v := .bool false) (by rw [hco]; rfl) ?_
  refine Sd_intro (fun _ _ => rfl) ?_
  have H4 := H3.keep (Fr.drew w3) (fun _ _ => id) (fun _ _ => id)
  have h4' := h3.keep (Fr.drew w3) id
  refine AnyC_plan T_ok mixed (planO [0,1,2,3,4,1005,6]) (Old w3.drew) (by kernel_rfl) (by kernel_rfl) (fun _ _ => rfl) (Kp ?_)
  refine LdS_blk H4.tab rfl ?_
  refine LdSN_blk (vs := pairL k) h4' rfl rfl ?_
  refine ⟨?_, trivial⟩
  refine LookN T_ok (kv := pairV) rfl keyP zv_p_bits_Set (H4.map2.keep (Fr.drew w3.drew) id) k (v := .pointer (some ⟨e.f, 0, none⟩)) (by rw [← ek, fi_get h.map2.nodup he]; rfl) ?_
  refine Sd_intro (fun _ _ => rfl) ?_
  have H5 := H4.keep (Fr.drew w3.drew) (fun _ _ => id) (fun _ _ => id)
  have h5' := h4'.keep (Fr.drew w3.drew) id
  have F5 := (F3.no (Fr.drew w3)).no (Fr.drew w3.drew)
  refine LdC_blk H5.tab rfl ?_
  refine Sd_intro (by omega) ?_
  have em : c.tmod per = c % per := Int.tmod_eq_emod_of_nonneg hr.2.2.1
  have e0 := Int.emod_nonneg c (show per ≠ 0 by omega)
  have e1 := Int.emod_lt_of_pos c (show 0 < per by omega)
  refine CallC_intro (Put_spec (c.tmod per) w3.drew.drew (H5.sets e he) (by omega) (by omega)) (fun v w6 ⟨hv, hS6, f6⟩ => ?_)
  subst hv
  rw [em] at hS6
  refine ⟨by rw [em]; rfl, by rw [← ek]; exact H5.putF he f6 hS6, ?_⟩
  exact F5.trans f6 (fun _ _ e => e.elim) (fun _ _ e => e)
theorem Add_in {b m1 m2 m3 : Nat} {n per : Int} {sp : List SpE} {fi : List FiE} {co : List (Int × Int)} (hm c : Int) (l : List Int) (w : World) (h : SetsG w b m1 m2 m3 n per sp fi co) (hp : 1 ≤ per) (hn : 1 ≤ n) (hnp : n * per ≤ 4194304) (hr : 0 ≤ hm ∧ hm < n ∧ 0 ≤ c ∧ c < n * per) (hne : hm ≠ c / per)
    (hco : getM (coM co) (hm, c / per) = none) (hfi : getM (fiM fi) (hm, c / per) = none) (hl : (spGet sp (hm, c / per) = none ∧ l = []) ∨ ∃ o, spGet sp (hm, c / per) = some o ∧ o.l = l) (hc : c ∈ l) (h4 : l.length ≤ 900) :
    CallC Pr f_remset_Sets_Add [.pointer (some ⟨b, 0, none⟩), .int .i64 hm, .int .i64 c] w (fun v w' => v = .tuple #[.bool false, .int .i64 0] ∧ Fr No w w') := by
  refine call_sound T_ok fun_remset_Sets_Add rfl (by kernel_rfl) rfl (Kp ?_)
  refine CallC_intro (rkey_spec hm c w h.tab hp hn hnp) (fun v w1 ⟨hv, f1⟩ => ?_)
  have hv : v = .tuple #[pairV (hm, c / per), .int .i64 0] := by
    rcases hv with ⟨_, _, _, _, hv⟩ | ⟨hn', _⟩
    · exact hv
    · exact absurd hr hn'
  subst hv
  refine NewC_blk (fun p w2 hp2 h2 f2 s2 => ?_)
  refine StN_blk h2 rfl (Nat.le_of_ble_eq_true rfl) (fun w3 h3 f3 s3 => ?_)
  have h3 : Blk w3 p t_remset_pair (pairL (hm, c / per)) := h3
  have f13 : Fr No w1 w3 := f2.new f3 (fun _ _ e => e) (fun k e => by omega)
  have F3 := f1.no f13
  have H3 := h.keep F3 (fun _ _ => id) (fun _ _ => id)
  refine LdC_blk h3 rfl ?_
  refine LdC_blk h3 rfl ?_
  refine Br_df hne ?_
  obtain ⟨k, hk⟩ : ∃ k, k = (hm, c / per) := ⟨_, rfl⟩
  rw [← hk] at h3 hco hfi hl
  refine AnyC_plan T_ok mixed (planO [0,1,2,3,4,1005,6]) (Old w3) (by kernel_rfl) (by kernel_rfl) (fun _ _ => rfl) (Kp ?_)
  refine LdS_blk H3.tab rfl ?_
  refine LdSN_blk (vs := pairL k) h3 rfl rfl ?_
  refine ⟨?_, trivial⟩
  refine LookN T_ok (kv := pairV) rfl keyP zv_bool (H3.map3.keep (Fr.drew w3) id) k (v := .bool false) (by rw [hco]; rfl) ?_
  refine Sd_intro (fun _ _ => rfl) ?_
  have H4 := H3.keep (Fr.drew w3) (fun _ _ => id) (fun _ _ => id)
  have h4' := h3.keep (Fr.drew w3) id
  refine AnyC_plan T_ok mixed (planO [0,1,2,3,4,1005,6]) (Old w3.drew) (by kernel_rfl) (by kernel_rfl) (fun _ _ => rfl) (Kp ?_)
  refine LdS_blk H4.tab rfl ?_
  refine LdSN_blk (vs := pairL k) h4' rfl rfl ?_
  refine ⟨?_, trivial⟩
  refine LookN T_ok (kv := pairV) rfl keyP zv_p_bits_Set (H4.map2.keep (Fr.drew w3.drew) id) k (v := .pointer none) (by rw [hfi]; rfl) ?_
  refine Sd_intro (fun _ _ => rfl) ?_
  have H5 := H4.keep (Fr.drew w3.drew) (fun _ _ => id) (fun _ _ => id)
  have h5' := h4'.keep (Fr.drew w3.drew) id
  obtain ⟨a, cp, hv, hown, hblk⟩ := sp_row H5 k hl
  refine AnyC_plan T_ok mixed (planO [0,1,2,3,4,1005,6]) (Old w3.drew.drew) (by kernel_rfl) (by kernel_rfl) (fun _ _ => rfl) (Kp ?_)
  refine LdS_blk H5.tab rfl ?_
  refine LdSN_blk (vs := pairL k) h5' rfl rfl ?_
  refine ⟨?_, trivial⟩
  refine LookN T_ok (kv := pairV) rfl keyP zv_s_int (H5.map1.keep (Fr.drew w3.drew.drew) id) k hv ?_
  refine Sd_intro (fun _ _ => rfl) ?_
  have f35 : Fr No w3 w3.drew.drew.drew := ((Fr.drew w3).no (Fr.drew w3.drew)).no (Fr.drew w3.drew.drew)
  have s35 : w3.drew.drew.drew.heap.size = w3.heap.size := rfl
  generalize w3.drew.drew.drew = w6 at f35 s35 ⊢
  have H6 := H3.keep f35 (fun _ _ => id) (fun _ _ => id)
  have h6 := h3.keep f35 id
  have F6 := F3.no f35
  have hown6 : Own w6 0 (.slice a l.length cp) l := by
    obtain ⟨a2, cp2, hv2, ho2, _⟩ := sp_row H6 k hl
    rw [hv] at hv2
    injection hv2 with e1 _ e2
    rw [e1, e2]; exact ho2
  refine CallC_intro (Contains_spec (.slice a l.length cp) l c w6 hown6.ints (by omega)) (fun v w7 ⟨hv7, f7⟩ => ?_)
  subst hv7
  refine Br_dt hc ?_
  exact ⟨rfl, F6.no f7⟩
theorem Add_range {b m1 m2 m3 : Nat} {n per : Int} (hm c : Int) (w : World) (h : Blk w b t_remset_Sets (setsL n per m1 m2 m3)) (hp : 1 ≤ per) (hn : 1 ≤ n) (hnp : n * per ≤ 4194304) (hr : ¬ (0 ≤ hm ∧ hm < n ∧ 0 ≤ c ∧ c < n * per)) :
    CallC Pr f_remset_Sets_Add [.pointer (some ⟨b, 0, none⟩), .int .i64 hm, .int .i64 c] w (fun v w' => v = .tuple #[.bool false, .int .i64 2] ∧ Fr No w w') := by
  refine call_sound T_ok fun_remset_Sets_Add rfl (by kernel_rfl) rfl (Kp ?_)
  refine CallC_intro (rkey_spec hm c w h hp hn hnp) (fun v w1 ⟨hv, f1⟩ => ?_)
  have hv : v = .tuple #[pairV (0, 0), .int .i64 2] := by
    rcases hv with ⟨a1, a2, a3, a4, _⟩ | ⟨_, hv⟩
    · exact absurd ⟨a1, a2, a3, a4⟩ hr
    · exact hv
  subst hv
  refine NewC_blk (fun p w2 hp2 h2 f2 s2 => ?_)
  refine StN_blk h2 rfl (Nat.le_of_ble_eq_true rfl) (fun w3 h3 f3 s3 => ?_)
  exact ⟨rfl, f1.no (f2.new f3 (fun _ _ e => e) (fun k e => by omega))⟩
end Go.Proofs.YtdhbpklmkibmbaaGreat
