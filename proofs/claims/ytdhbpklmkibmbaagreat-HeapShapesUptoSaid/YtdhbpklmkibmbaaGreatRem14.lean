/- Layer 11 (remset): Way and Has, in the sets' own words. -/
import Derived.Test.YtdhbpklmkibmbaaGreatRem10
import Derived.Test.YtdhbpklmkibmbaaGreatMapD
namespace Go.Proofs.YtdhbpklmkibmbaaGreat
open Go.Vc

def wayA (n : Int) (A : Abs) (hm s : Int) : Int := if 0 ≤ hm ∧ hm < n then (match A (hm, s) with
  | .co => 3
  | .fi _ => 2
  | .sp l => if l = [] then 0 else 1) else 0
def hasS (per : Int) (c : Int) : Src → Bool
  | .co => true
  | .fi S => S (c % per).toNat
  | .sp l => decide (c ∈ l)
def hasA (n per : Int) (A : Abs) (hm c : Int) : Bool := if 0 ≤ hm ∧ hm < n ∧ 0 ≤ c ∧ c < n * per then hasS per c (A (hm, c / per)) else false
theorem Has_range {b m1 m2 m3 : Nat} {n per : Int} (hm c : Int) (w : World) (h : Blk w b t_remset_Sets (setsL n per m1 m2 m3)) (hp : 1 ≤ per) (hn : 1 ≤ n) (hnp : n * per ≤ 4194304) (hr : ¬ (0 ≤ hm ∧ hm < n ∧ 0 ≤ c ∧ c < n * per)) :
    CallC Pr f_remset_Sets_Has [.pointer (some ⟨b, 0, none⟩), .int .i64 hm, .int .i64 c] w (fun v w' => v = .bool false ∧ Fr No w w') := by
  refine call_sound T_ok fun_remset_Sets_Has rfl (by kernel_rfl) rfl (Kp ?_)
  refine CallC_intro (rkey_spec hm c w h hp hn hnp) (fun v w1 ⟨hv, f1⟩ => ?_)
  have hv : v = .tuple #[pairV (0, 0), .int .i64 2] := by
    rcases hv with ⟨a1, a2, a3, a4, _⟩ | ⟨_, hv⟩
    · exact absurd ⟨a1, a2, a3, a4⟩ hr
    · exact hv
  subst hv
  refine NewC_blk (fun p w2 hp2 h2 f2 s2 => ?_)
  refine StN_blk h2 rfl (Nat.le_of_ble_eq_true rfl) (fun w3 h3 f3 s3 => ?_)
  exact ⟨rfl, f1.no (f2.new f3 (fun _ _ e => e) (fun k e => by omega))⟩
set_option maxHeartbeats 1000000 in
theorem Has_gen {b m1 m2 m3 : Nat} {n per : Int} {sp : List SpE} {fi : List FiE} {co : List (Int × Int)} (hm c : Int) (l : List Int) (bc bf : Bool) (fv : Value) (w : World) (h : SetsG w b m1 m2 m3 n per sp fi co) (hp : 1 ≤ per) (hn : 1 ≤ n) (hnp : n * per ≤ 4194304) (hr : 0 ≤ hm ∧ hm < n ∧ 0 ≤ c ∧ c < n * per)
    (hc : (getM (coM co) (hm, c / per)).getD (.bool false) = .bool bc) (hf : (getM (fiM fi) (hm, c / per)).getD (.pointer none) = fv) (hfc : ∀ w', Fr No w w' → CallC Pr f_bits_Set_Has [fv, .int .i64 (c.tmod per)] w' (fun v w'' => v = .bool bf ∧ Fr No w' w''))
    (hl : (spGet sp (hm, c / per) = none ∧ l = []) ∨ ∃ o, spGet sp (hm, c / per) = some o ∧ o.l = l) (hll : l.length ≤ 1000) :
    CallC Pr f_remset_Sets_Has [.pointer (some ⟨b, 0, none⟩), .int .i64 hm, .int .i64 c] w (fun v w' => v = .bool (bc || (bf || decide (c ∈ l))) ∧ Fr No w w') := by
  refine call_sound T_ok fun_remset_Sets_Has rfl (by kernel_rfl) rfl (Kp ?_)
  refine CallC_intro (rkey_spec hm c w h.tab hp hn hnp) (fun v w1 ⟨hv, f1⟩ => ?_)
  have hv : v = .tuple #[pairV (hm, c / per), .int .i64 0] := by
    rcases hv with ⟨_, _, _, _, hv⟩ | ⟨hn', _⟩
    · exact hv
    · exact absurd hr hn'
  subst hv
  refine NewC_blk (fun p w2 hp2 h2 f2 s2 => ?_)
  refine StN_blk h2 rfl (Nat.le_of_ble_eq_true rfl) (fun w3 h3 f3 s3 => ?_)
  have h3 : Blk w3 p t_remset_pair (pairL (hm, c / per)) := h3
  have f13 : Fr No w1 w3 := f2.new f3 (fun _ _ e => e) (fun k e => by omega)
  have F3 := f1.no f13
  have H3 := h.keep F3 (fun _ _ => id) (fun _ _ => id)
  obtain ⟨k, hk⟩ : ∃ k, k = (hm, c / per) := ⟨_, rfl⟩
  rw [← hk] at h3 hc hf hl
  refine AnyC_plan T_ok mixed (planO [0,1,2,3,4,1005,6,7,8,9,10,11,13,14,15,16,17,18,1012,1019,20,21,22,23,24,25,26,28,1027,1029,30,31]) (Old w3) (by kernel_rfl) (by kernel_rfl) (fun _ _ => rfl) (Kp ?_)
  refine LdS_blk H3.tab rfl ?_
  refine LdSN_blk (vs := pairL k) h3 rfl rfl ?_
  refine ⟨?_, trivial⟩
  refine LookN T_ok (kv := pairV) rfl keyP zv_bool (H3.map3.keep (Fr.drew w3) id) k (v := .bool bc) hc ?_
  refine Sd_intro (fun _ _ => rfl) ?_
  refine Br_intro (fun hb => ?_) (fun hb => ?_)
  · refine ⟨?_, trivial⟩
    refine ⟨?_, trivial⟩
    refine ⟨?_, trivial⟩
    refine ⟨?_, trivial⟩
    exact ⟨by rw [hb]; rfl, F3.no (Fr.drew w3)⟩
  refine LdS_blk H3.tab rfl ?_
  refine LdSN_blk (vs := pairL k) h3 rfl rfl ?_
  refine LdS_blk H3.tab rfl ?_
  refine Sd_intro (by omega) ?_
  refine ⟨?_, trivial⟩
  refine LookN T_ok (kv := pairV) rfl keyP zv_p_bits_Set (H3.map2.keep (Fr.drew w3) id) k hf ?_
  refine Sd_intro (fun _ _ => rfl) ?_
  refine ⟨?_, trivial⟩
  refine CallC_intro (hfc w3.drew (F3.no (Fr.drew w3))) (fun v w4 ⟨hv, f4⟩ => ?_)
  subst hv
  have f4 := f4.drewL
  refine Sd_intro f4.old ?_
  refine Br_intro (fun hb2 => ?_) (fun hb2 => ?_)
  · refine ⟨?_, trivial⟩
    refine ⟨?_, trivial⟩
    exact ⟨by rw [hb, hb2]; rfl, F3.no f4⟩
  · refine LdS_blk H3.tab rfl ?_
    refine LdSN_blk (vs := pairL k) h3 rfl rfl ?_
    refine ⟨?_, trivial⟩
    obtain ⟨a, cp, hv, hown, _⟩ := sp_row (H3.keep f4 (fun _ _ => id) (fun _ _ => id)) k hl
    refine LookN T_ok (kv := pairV) rfl keyP zv_s_int (H3.map1.keep f4 id) k hv ?_
    refine Sd_intro f4.old ?_
    refine ⟨?_, trivial⟩
    refine CallC_intro (Contains_spec (.slice a l.length cp) l c w4 hown.ints (by omega)) (fun v w5 ⟨hv, f5⟩ => ?_)
    subst hv
    refine Sd_intro (f4.no f5).old ?_
    exact ⟨by rw [hb, hb2]; rfl, (F3.no f4).no f5⟩
theorem sp_none {sp : List SpE} {k : Int × Int} (h : k ∉ sp.map (·.k)) : spGet sp k = none := by
  cases hh : spGet sp k with
  | none => rfl
  | some o =>
    obtain ⟨ho, hk', _⟩ := spGet_some hh
    exact absurd (List.mem_map.2 ⟨o, ho, hk'⟩) h
theorem Has_RS {w : World} {b : Nat} {B : Nat → Prop} {n per : Int} {A : Abs} (C : RCfg n per) (hm c : Int) (h : RS w b B n per A) :
    CallC Pr f_remset_Sets_Has [.pointer (some ⟨b, 0, none⟩), .int .i64 hm, .int .i64 c] w (fun v w' => v = .bool (hasA n per A hm c) ∧ Fr No w w') := by
  obtain ⟨m1, m2, m3, sp, fi, co, hG, g, hB, hBs⟩ := id h
  have nds : (sp.map (·.k)).Nodup := by rw [← spM_keys]; exact hG.map1.nodup
  unfold hasA
  by_cases hr : 0 ≤ hm ∧ hm < n ∧ 0 ≤ c ∧ c < n * per
  · rw [if_pos hr]
    have hnil : ∀ w', Fr No w w' → CallC Pr f_bits_Set_Has [.pointer none, .int .i64 (c.tmod per)] w' (fun v w'' => v = .bool false ∧ Fr No w' w'') := fun w' _ => Has_nil _ w'
    rcases g.src (hm, c / per) with ⟨hc, eA⟩ | ⟨e, he, hek, hnc, eA⟩ | ⟨⟨e, he, hek, eA⟩, hnc, hnf⟩ | ⟨hns, hnc, hnf, eA⟩
    · rw [eA]
      have hg : getM (coM co) (hm, c / per) = some (.bool true) := (getM_some hG.map3.nodup).2 (List.mem_map.2 ⟨_, hc, rfl⟩)
      have hnf : (hm, c / per) ∉ fi.map (·.k) := fun hh => by
        obtain ⟨x, hx, ex⟩ := List.mem_map.1 hh
        exact g.fc x hx (by rw [ex]; exact hc)
      exact Has_gen hm c [] true false (.pointer none) w hG C.p1 C.n1 C.np hr (by rw [hg]; rfl) (by rw [fi_not hnf]; rfl) hnil (.inl ⟨sp_none (g.cs _ hc), rfl⟩) (by decide)
    · rw [eA]
      have em : c.tmod per = c % per := Int.tmod_eq_emod_of_nonneg hr.2.2.1
      have e0 := Int.emod_nonneg c (show per ≠ 0 by have := C.p1; omega)
      have := Has_gen hm c [] false (e.S (c % per).toNat) (.pointer (some ⟨e.f, 0, none⟩)) w hG C.p1 C.n1 C.np hr (by rw [co_not hnc]; rfl) (by rw [← hek, fi_get hG.map2.nodup he]; rfl) (fun w' f => CallC_mk (Calls.mono (CallC_elim (Has_spec (c.tmod per) w' ((hG.sets e he).keep f id id))) fun e' w'' ⟨v, he', hv, f'⟩ => ⟨v, he', by
        rw [hv]; unfold has; rw [em, decide_eq_true e0]; rfl, f'⟩)) (.inl ⟨sp_none (by rw [← hek]; exact g.fs e he), rfl⟩) (by decide)
      simpa [hasS] using this
    · rw [eA]
      have h4 := (g.spk e he).2.2.2.1
      exact Has_gen hm c e.l false false (.pointer none) w hG C.p1 C.n1 C.np hr (by rw [co_not hnc]; rfl) (by rw [fi_not hnf]; rfl) hnil (.inr ⟨e, by rw [← hek]; exact spGet_of nds he, rfl⟩) (by omega)
    · rw [eA]
      exact Has_gen hm c [] false false (.pointer none) w hG C.p1 C.n1 C.np hr (by rw [co_not hnc]; rfl) (by rw [fi_not hnf]; rfl) hnil (.inl ⟨sp_none hns, rfl⟩) (by decide)
  · rw [if_neg hr]; exact Has_range hm c w hG.tab C.p1 C.n1 C.np hr
end Go.Proofs.YtdhbpklmkibmbaaGreat
/- Layer 11 (remset): forget, Clear, Scrub. -/
namespace Go.Proofs.YtdhbpklmkibmbaaGreat
open Go.Vc

theorem Clear_1_spec {c3 u3 : Nat} (r : Int) (p : Int × Int) (w : World) (h3 : Blk w c3 u3 [.int .i64 r]) :
    CallC Pr f_remset_Sets_Clear_1 [.agg (pairL p).toArray, .pointer (some ⟨c3, 0, none⟩)] w (fun v w' => v = .bool (decide (p.1 = r)) ∧ Fr No w w') := by
  refine call_sound T_ok fun_remset_Sets_Clear_1 rfl (by kernel_rfl) rfl (Kp ?_)
  refine NewC_blk (fun q w1 e_q h1 f1 s1 => ?_)
  have h1 : Blk w1 q t_remset_pair (pairL p) := h1
  refine LdC_blk (h1) rfl ?_
  refine LdC_blk (h3.keep f1 id) rfl ?_
  exact ⟨rfl, f1⟩
theorem forget_1_Clear {c3 u3 c5 u5 : Nat} (r : Int) (p : Int × Int) (v : Value) (w : World) (h3 : Blk w c3 u3 [.int .i64 r]) (h5 : Blk w c5 u5 [.func (.func f_remset_Sets_Clear_1) #[] #[.pointer (some ⟨c3, 0, none⟩)]]) :
    CallC Pr f_remset_Sets_forget_1 [.agg (pairL p).toArray, v, .pointer (some ⟨c5, 0, none⟩)] w (fun v w' => v = .bool (decide (p.1 = r)) ∧ Fr No w w') := by
  refine call_sound T_ok fun_remset_Sets_forget_1 rfl (by kernel_rfl) rfl (Kp ?_)
  refine NewC_blk (fun q w1 e_q h1 f1 s1 => ?_)
  have h1 : Blk w1 q t_remset_pair (pairL p) := h1
  refine LdC_blk (h5.keep f1 id) rfl ?_
  refine LdN_blk (vs := pairL p) (h1) rfl rfl ?_
  refine CallC_intro (Clear_1_spec r p w1 (h3.keep f1 id)) (fun v w2 ⟨hv, f2⟩ => ?_)
  subst hv
  exact ⟨rfl, f1.no f2⟩
theorem forget_2_Clear {c3 u3 c5 u5 : Nat} (r : Int) (p : Int × Int) (v : Value) (w : World) (h3 : Blk w c3 u3 [.int .i64 r]) (h5 : Blk w c5 u5 [.func (.func f_remset_Sets_Clear_1) #[] #[.pointer (some ⟨c3, 0, none⟩)]]) :
    CallC Pr f_remset_Sets_forget_2 [.agg (pairL p).toArray, v, .pointer (some ⟨c5, 0, none⟩)] w (fun v w' => v = .bool (decide (p.1 = r)) ∧ Fr No w w') := by
  refine call_sound T_ok fun_remset_Sets_forget_2 rfl (by kernel_rfl) rfl (Kp ?_)
  refine NewC_blk (fun q w1 e_q h1 f1 s1 => ?_)
  have h1 : Blk w1 q t_remset_pair (pairL p) := h1
  refine LdC_blk (h5.keep f1 id) rfl ?_
  refine LdN_blk (vs := pairL p) (h1) rfl rfl ?_
  refine CallC_intro (Clear_1_spec r p w1 (h3.keep f1 id)) (fun v w2 ⟨hv, f2⟩ => ?_)
  subst hv
  exact ⟨rfl, f1.no f2⟩
theorem forget_3_Clear {c3 u3 c5 u5 : Nat} (r : Int) (p : Int × Int) (v : Value) (w : World) (h3 : Blk w c3 u3 [.int .i64 r]) (h5 : Blk w c5 u5 [.func (.func f_remset_Sets_Clear_1) #[] #[.pointer (some ⟨c3, 0, none⟩)]]) :
    CallC Pr f_remset_Sets_forget_3 [.agg (pairL p).toArray, v, .pointer (some ⟨c5, 0, none⟩)] w (fun v w' => v = .bool (decide (p.1 = r)) ∧ Fr No w w') := by
  refine call_sound T_ok fun_remset_Sets_forget_3 rfl (by kernel_rfl) rfl (Kp ?_)
  refine NewC_blk (fun q w1 e_q h1 f1 s1 => ?_)
  have h1 : Blk w1 q t_remset_pair (pairL p) := h1
  refine LdC_blk (h5.keep f1 id) rfl ?_
  refine LdN_blk (vs := pairL p) (h1) rfl rfl ?_
  refine CallC_intro (Clear_1_spec r p w1 (h3.keep f1 id)) (fun v w2 ⟨hv, f2⟩ => ?_)
  subst hv
  exact ⟨rfl, f1.no f2⟩
theorem Clear_spec {b m1 m2 m3 : Nat} {n per : Int} {sp : List SpE} {fi : List FiE} {co : List (Int × Int)} (r : Int) (w : World) (h : SetsG w b m1 m2 m3 n per sp fi co) (hr : 0 ≤ r ∧ r < n) :
    CallC Pr f_remset_Sets_Clear [.pointer (some ⟨b, 0, none⟩), .int .i64 r] w (fun v w' => v = .int .i64 0 ∧ SetsG w' b m1 m2 m3 n per (sp.filter fun x => !decide (x.k.1 = r)) (fi.filter fun x => !decide (x.k.1 = r)) (co.filter fun p => !decide (p.1 = r)) ∧ Fr (fun x => x = m1 ∨ x = m2 ∨ x = m3) w w') := by
  have rl := h.rest_lt
  have hb := rl b (by simp [restB])
  have l1 := rl m1 (by simp [restB])
  have l2 := rl m2 (by simp [restB])
  have l3 := rl m3 (by simp [restB])
  have hnd := h.rs
  unfold restB at hnd
  simp only [List.nodup_cons, List.mem_cons, not_or] at hnd
  obtain ⟨⟨n1, n2, n3, n4⟩, ⟨n5, n6, n7⟩, ⟨n8, n9⟩, n10, n11⟩ := hnd
  refine call_sound T_ok fun_remset_Sets_Clear rfl (by kernel_rfl) rfl (Kp ?_)
  refine NewC_blk (fun c3 w1 e_c3 h3 f1 s1 => ?_)
  refine LdC_blk (h3) rfl ?_
  refine call_sound T_ok fun_remset_Sets_forget rfl (by kernel_rfl) rfl (Kp ?_)
  refine NewC_blk (fun c5 w2 e_c5 h5 f2 s2 => ?_)
  have F2 := f1.no f2
  have z1 := f1.size
  have H2 := h.keep F2 (fun _ _ => id) (fun _ _ => id)
  have h32 := h3.keep f2 id
  refine CallC_intro (rregion_spec r w2 H2.tab) (fun v w3 ⟨hv, f3⟩ => ?_)
  rw [decide_eq_true hr] at hv
  subst hv
  have F3 := F2.no f3
  have H3 := H2.keep f3 (fun _ _ => id) (fun _ _ => id)
  have h33 := h32.keep f3 id
  have h53 := h5.keep f3 id
  have z3 := f3.size
  refine LdC_blk (H3.tab) rfl ?_
  refine CallC_intro (DelF_sp (.pointer (some ⟨c5, 0, none⟩)) (fun p => decide (p.1 = r)) w3 H3.map1 (fun k v w' f => forget_1_Clear r k v w' (h33.keep f (by omega)) (h53.keep f (by omega)))) (fun v w4 ⟨hM1, f4⟩ => ?_)
  have z4 := f4.size
  have t4 := H3.tab.keep f4 n1
  have M2 := H3.map2.keep f4 (fun e => n5 e.symm)
  have M3 := H3.map3.keep f4 (fun e => n6 e.symm)
  have h34 := h33.keep f4 (by omega)
  have h54 := h53.keep f4 (by omega)
  refine LdC_blk (t4) rfl ?_
  refine CallC_intro (DelF_fi (.pointer (some ⟨c5, 0, none⟩)) (fun p => decide (p.1 = r)) w4 M2 (fun k v w' f => forget_2_Clear r k v w' (h34.keep f (by omega)) (h54.keep f (by omega)))) (fun v w5 ⟨hM2, f5⟩ => ?_)
  have z5 := f5.size
  have t5 := t4.keep f5 n2
  have M1 := hM1.keep f5 n5
  have M3 := M3.keep f5 (fun e => n8 e.symm)
  have h35 := h34.keep f5 (by omega)
  have h55 := h54.keep f5 (by omega)
  refine LdC_blk (t5) rfl ?_
  refine CallC_intro (DelF_co (.pointer (some ⟨c5, 0, none⟩)) (fun p => decide (p.1 = r)) w5 M3 (fun k v w' f => forget_3_Clear r k v w' (h35.keep f (by omega)) (h55.keep f (by omega)))) (fun v w6 ⟨hM3, f6⟩ => ?_)
  have M1 := M1.keep f6 n6
  have M2 := hM2.keep f6 n8
  have F36 : Fr (fun x => x = m1 ∨ x = m2 ∨ x = m3) w3 w6 := ((f4.weak (fun _ _ e => .inl e)).trans f5 (fun _ _ e => e) (fun _ _ e => .inr (.inl e))).trans f6 (fun _ _ e => e) (fun _ _ e => .inr (.inr e))
  have e1 : (spM sp).filter (fun x => !decide (x.1.1 = r)) = spM (sp.filter fun x => !decide (x.k.1 = r)) := by unfold spM; rw [List.filter_map]; rfl
  have e2 : (fiM fi).filter (fun x => !decide (x.1.1 = r)) = fiM (fi.filter fun x => !decide (x.k.1 = r)) := by unfold fiM; rw [List.filter_map]; rfl
  have e3 : (coM co).filter (fun x => !decide (x.1.1 = r)) = coM (co.filter fun p => !decide (p.1 = r)) := by unfold coM; rw [List.filter_map]; rfl
  have M1 : MapG pairV w6 m1 (spM (sp.filter fun x => !decide (x.k.1 = r))) := by rw [← e1]; exact M1
  have M2 : MapG pairV w6 m2 (fiM (fi.filter fun x => !decide (x.k.1 = r))) := by rw [← e2]; exact M2
  have M3 : MapG pairV w6 m3 (coM (co.filter fun p => !decide (p.1 = r))) := by rw [← e3]; exact hM3
  exact ⟨rfl, H3.less List.filter_sublist List.filter_sublist F36 (fun _ e => e) M1 M2 M3, F3.noL F36⟩
theorem Clear_out {b m1 m2 m3 : Nat} {n per : Int} (r : Int) (w : World) (h : Blk w b t_remset_Sets (setsL n per m1 m2 m3)) (hr : ¬ (0 ≤ r ∧ r < n)) :
    CallC Pr f_remset_Sets_Clear [.pointer (some ⟨b, 0, none⟩), .int .i64 r] w (fun v w' => v = .int .i64 2 ∧ Fr No w w') := by
  refine call_sound T_ok fun_remset_Sets_Clear rfl (by kernel_rfl) rfl (Kp ?_)
  refine NewC_blk (fun c3 w1 e_c3 h3 f1 s1 => ?_)
  refine LdC_blk (h3) rfl ?_
  refine call_sound T_ok fun_remset_Sets_forget rfl (by kernel_rfl) rfl (Kp ?_)
  refine NewC_blk (fun c5 w2 e_c5 h5 f2 s2 => ?_)
  have F2 := f1.no f2
  refine CallC_intro (rregion_spec r w2 (h.keep F2 id)) (fun v w3 ⟨hv, f3⟩ => ?_)
  rw [decide_eq_false hr] at hv
  subst hv
  exact ⟨rfl, F2.no f3⟩
theorem Scrub_1_spec {c3 u3 : Nat} (r : Int) (p : Int × Int) (w : World) (h3 : Blk w c3 u3 [.int .i64 r]) :
    CallC Pr f_remset_Sets_Scrub_1 [.agg (pairL p).toArray, .pointer (some ⟨c3, 0, none⟩)] w (fun v w' => v = .bool (decide (p.2 = r)) ∧ Fr No w w') := by
  refine call_sound T_ok fun_remset_Sets_Scrub_1 rfl (by kernel_rfl) rfl (Kp ?_)
  refine NewC_blk (fun q w1 e_q h1 f1 s1 => ?_)
  have h1 : Blk w1 q t_remset_pair (pairL p) := h1
  refine LdC_blk (h1) rfl ?_
  refine LdC_blk (h3.keep f1 id) rfl ?_
  exact ⟨rfl, f1⟩
theorem forget_1_Scrub {c3 u3 c5 u5 : Nat} (r : Int) (p : Int × Int) (v : Value) (w : World) (h3 : Blk w c3 u3 [.int .i64 r]) (h5 : Blk w c5 u5 [.func (.func f_remset_Sets_Scrub_1) #[] #[.pointer (some ⟨c3, 0, none⟩)]]) :
    CallC Pr f_remset_Sets_forget_1 [.agg (pairL p).toArray, v, .pointer (some ⟨c5, 0, none⟩)] w (fun v w' => v = .bool (decide (p.2 = r)) ∧ Fr No w w') := by
  refine call_sound T_ok fun_remset_Sets_forget_1 rfl (by kernel_rfl) rfl (Kp ?_)
  refine NewC_blk (fun q w1 e_q h1 f1 s1 => ?_)
  have h1 : Blk w1 q t_remset_pair (pairL p) := h1
  refine LdC_blk (h5.keep f1 id) rfl ?_
  refine LdN_blk (vs := pairL p) (h1) rfl rfl ?_
  refine CallC_intro (Scrub_1_spec r p w1 (h3.keep f1 id)) (fun v w2 ⟨hv, f2⟩ => ?_)
  subst hv
  exact ⟨rfl, f1.no f2⟩
theorem forget_2_Scrub {c3 u3 c5 u5 : Nat} (r : Int) (p : Int × Int) (v : Value) (w : World) (h3 : Blk w c3 u3 [.int .i64 r]) (h5 : Blk w c5 u5 [.func (.func f_remset_Sets_Scrub_1) #[] #[.pointer (some ⟨c3, 0, none⟩)]]) :
    CallC Pr f_remset_Sets_forget_2 [.agg (pairL p).toArray, v, .pointer (some ⟨c5, 0, none⟩)] w (fun v w' => v = .bool (decide (p.2 = r)) ∧ Fr No w w') := by
  refine call_sound T_ok fun_remset_Sets_forget_2 rfl (by kernel_rfl) rfl (Kp ?_)
  refine NewC_blk (fun q w1 e_q h1 f1 s1 => ?_)
  have h1 : Blk w1 q t_remset_pair (pairL p) := h1
  refine LdC_blk (h5.keep f1 id) rfl ?_
  refine LdN_blk (vs := pairL p) (h1) rfl rfl ?_
  refine CallC_intro (Scrub_1_spec r p w1 (h3.keep f1 id)) (fun v w2 ⟨hv, f2⟩ => ?_)
  subst hv
  exact ⟨rfl, f1.no f2⟩
theorem forget_3_Scrub {c3 u3 c5 u5 : Nat} (r : Int) (p : Int × Int) (v : Value) (w : World) (h3 : Blk w c3 u3 [.int .i64 r]) (h5 : Blk w c5 u5 [.func (.func f_remset_Sets_Scrub_1) #[] #[.pointer (some ⟨c3, 0, none⟩)]]) :
    CallC Pr f_remset_Sets_forget_3 [.agg (pairL p).toArray, v, .pointer (some ⟨c5, 0, none⟩)] w (fun v w' => v = .bool (decide (p.2 = r)) ∧ Fr No w w') := by
  refine call_sound T_ok fun_remset_Sets_forget_3 rfl (by kernel_rfl) rfl (Kp ?_)
  refine NewC_blk (fun q w1 e_q h1 f1 s1 => ?_)
  have h1 : Blk w1 q t_remset_pair (pairL p) := h1
  refine LdC_blk (h5.keep f1 id) rfl ?_
  refine LdN_blk (vs := pairL p) (h1) rfl rfl ?_
  refine CallC_intro (Scrub_1_spec r p w1 (h3.keep f1 id)) (fun v w2 ⟨hv, f2⟩ => ?_)
  subst hv
  exact ⟨rfl, f1.no f2⟩
theorem Scrub_spec {b m1 m2 m3 : Nat} {n per : Int} {sp : List SpE} {fi : List FiE} {co : List (Int × Int)} (r : Int) (w : World) (h : SetsG w b m1 m2 m3 n per sp fi co) (hr : 0 ≤ r ∧ r < n) :
    CallC Pr f_remset_Sets_Scrub [.pointer (some ⟨b, 0, none⟩), .int .i64 r] w (fun v w' => v = .int .i64 0 ∧ SetsG w' b m1 m2 m3 n per (sp.filter fun x => !decide (x.k.2 = r)) (fi.filter fun x => !decide (x.k.2 = r)) (co.filter fun p => !decide (p.2 = r)) ∧ Fr (fun x => x = m1 ∨ x = m2 ∨ x = m3) w w') := by
  have rl := h.rest_lt
  have hb := rl b (by simp [restB])
  have l1 := rl m1 (by simp [restB])
  have l2 := rl m2 (by simp [restB])
  have l3 := rl m3 (by simp [restB])
  have hnd := h.rs
  unfold restB at hnd
  simp only [List.nodup_cons, List.mem_cons, not_or] at hnd
  obtain ⟨⟨n1, n2, n3, n4⟩, ⟨n5, n6, n7⟩, ⟨n8, n9⟩, n10, n11⟩ := hnd
  refine call_sound T_ok fun_remset_Sets_Scrub rfl (by kernel_rfl) rfl (Kp ?_)
  refine NewC_blk (fun c3 w1 e_c3 h3 f1 s1 => ?_)
  refine LdC_blk (h3) rfl ?_
  refine call_sound T_ok fun_remset_Sets_forget rfl (by kernel_rfl) rfl (Kp ?_)
  refine NewC_blk (fun c5 w2 e_c5 h5 f2 s2 => ?_)
  have F2 := f1.no f2
  have z1 := f1.size
  have H2 := h.keep F2 (fun _ _ => id) (fun _ _ => id)
  have h32 := h3.keep f2 id
  refine CallC_intro (rregion_spec r w2 H2.tab) (fun v w3 ⟨hv, f3⟩ => ?_)
  rw [decide_eq_true hr] at hv
  subst hv
  have F3 := F2.no f3
  have H3 := H2.keep f3 (fun _ _ => id) (fun _ _ => id)
  have h33 := h32.keep f3 id
  have h53 := h5.keep f3 id
  have z3 := f3.size
  refine LdC_blk (H3.tab) rfl ?_
  refine CallC_intro (DelF_sp (.pointer (some ⟨c5, 0, none⟩)) (fun p => decide (p.2 = r)) w3 H3.map1 (fun k v w' f => forget_1_Scrub r k v w' (h33.keep f (by omega)) (h53.keep f (by omega)))) (fun v w4 ⟨hM1, f4⟩ => ?_)
  have z4 := f4.size
  have t4 := H3.tab.keep f4 n1
  have M2 := H3.map2.keep f4 (fun e => n5 e.symm)
  have M3 := H3.map3.keep f4 (fun e => n6 e.symm)
  have h34 := h33.keep f4 (by omega)
  have h54 := h53.keep f4 (by omega)
  refine LdC_blk (t4) rfl ?_
  refine CallC_intro (DelF_fi (.pointer (some ⟨c5, 0, none⟩)) (fun p => decide (p.2 = r)) w4 M2 (fun k v w' f => forget_2_Scrub r k v w' (h34.keep f (by omega)) (h54.keep f (by omega)))) (fun v w5 ⟨hM2, f5⟩ => ?_)
  have z5 := f5.size
  have t5 := t4.keep f5 n2
  have M1 := hM1.keep f5 n5
  have M3 := M3.keep f5 (fun e => n8 e.symm)
  have h35 := h34.keep f5 (by omega)
  have h55 := h54.keep f5 (by omega)
  refine LdC_blk (t5) rfl ?_
  refine CallC_intro (DelF_co (.pointer (some ⟨c5, 0, none⟩)) (fun p => decide (p.2 = r)) w5 M3 (fun k v w' f => forget_3_Scrub r k v w' (h35.keep f (by omega)) (h55.keep f (by omega)))) (fun v w6 ⟨hM3, f6⟩ => ?_)
  have M1 := M1.keep f6 n6
  have M2 := hM2.keep f6 n8
  have F36 : Fr (fun x => x = m1 ∨ x = m2 ∨ x = m3) w3 w6 := ((f4.weak (fun _ _ e => .inl e)).trans f5 (fun _ _ e => e) (fun _ _ e => .inr (.inl e))).trans f6 (fun _ _ e => e) (fun _ _ e => .inr (.inr e))
  have e1 : (spM sp).filter (fun x => !decide (x.1.2 = r)) = spM (sp.filter fun x => !decide (x.k.2 = r)) := by unfold spM; rw [List.filter_map]; rfl
  have e2 : (fiM fi).filter (fun x => !decide (x.1.2 = r)) = fiM (fi.filter fun x => !decide (x.k.2 = r)) := by unfold fiM; rw [List.filter_map]; rfl
  have e3 : (coM co).filter (fun x => !decide (x.1.2 = r)) = coM (co.filter fun p => !decide (p.2 = r)) := by unfold coM; rw [List.filter_map]; rfl
  have M1 : MapG pairV w6 m1 (spM (sp.filter fun x => !decide (x.k.2 = r))) := by rw [← e1]; exact M1
  have M2 : MapG pairV w6 m2 (fiM (fi.filter fun x => !decide (x.k.2 = r))) := by rw [← e2]; exact M2
  have M3 : MapG pairV w6 m3 (coM (co.filter fun p => !decide (p.2 = r))) := by rw [← e3]; exact hM3
  exact ⟨rfl, H3.less List.filter_sublist List.filter_sublist F36 (fun _ e => e) M1 M2 M3, F3.noL F36⟩
theorem Scrub_out {b m1 m2 m3 : Nat} {n per : Int} (r : Int) (w : World) (h : Blk w b t_remset_Sets (setsL n per m1 m2 m3)) (hr : ¬ (0 ≤ r ∧ r < n)) :
    CallC Pr f_remset_Sets_Scrub [.pointer (some ⟨b, 0, none⟩), .int .i64 r] w (fun v w' => v = .int .i64 2 ∧ Fr No w w') := by
  refine call_sound T_ok fun_remset_Sets_Scrub rfl (by kernel_rfl) rfl (Kp ?_)
  refine NewC_blk (fun c3 w1 e_c3 h3 f1 s1 => ?_)
  refine LdC_blk (h3) rfl ?_
  refine call_sound T_ok fun_remset_Sets_forget rfl (by kernel_rfl) rfl (Kp ?_)
  refine NewC_blk (fun c5 w2 e_c5 h5 f2 s2 => ?_)
  have F2 := f1.no f2
  refine CallC_intro (rregion_spec r w2 (h.keep F2 id)) (fun v w3 ⟨hv, f3⟩ => ?_)
  rw [decide_eq_false hr] at hv
  subst hv
  exact ⟨rfl, F2.no f3⟩
end Go.Proofs.YtdhbpklmkibmbaaGreat
/- Layer 11 (remset): Cards, Clear, Scrub, in the sets' own words. -/
namespace Go.Proofs.YtdhbpklmkibmbaaGreat
open Go.Vc

theorem elems_sorted (S : Nat → Bool) : ∀ m, (elems S m).Pairwise (· < ·)
  | 0 => List.Pairwise.nil
  | m + 1 => by
    show (elems S m ++ _).Pairwise _
    refine List.pairwise_append.2 ⟨elems_sorted S m, ?_, fun a ha b hb => ?_⟩
    · split
      · exact List.pairwise_singleton _ _
      · exact List.Pairwise.nil
    · have := (elems_mem ha).2.1
      split at hb
      · have := List.mem_singleton.1 hb; omega
      · cases hb
theorem elems_iff {S : Nat → Bool} : ∀ {m : Nat} {c : Int}, c ∈ elems S m ↔ 0 ≤ c ∧ c < m ∧ S c.toNat = true := by
  intro m c
  refine ⟨elems_mem, ?_⟩
  induction m with
  | zero => intro h; omega
  | succ m ih =>
    rintro ⟨h0, h1, h2⟩
    show c ∈ elems S m ++ _
    refine List.mem_append.2 ?_
    by_cases e : c = m
    · right
      subst e
      rw [Int.toNat_natCast] at h2
      rw [if_pos h2]; exact List.mem_singleton.2 rfl
    · exact .inl (ih ⟨h0, by omega, h2⟩)
theorem nodup_flat {α κ : Type} {key : α → κ} {F : α → List Int} {f : Int → κ} : ∀ {l : List α}, (l.map key).Nodup → (∀ x ∈ l, (F x).Nodup) → (∀ x ∈ l, ∀ c ∈ F x, key x = f c) → (l.flatMap F).Nodup := by
  intro l
  induction l with
  | nil => intro _ _ _; exact List.nodup_nil
  | cons x l ih =>
    intro nd h1 h2
    rw [List.map_cons, List.nodup_cons] at nd
    rw [List.flatMap_cons]
    refine List.nodup_append.2 ⟨h1 x List.mem_cons_self, ih nd.2 (fun y hy => h1 y (List.mem_cons_of_mem _ hy)) (fun y hy => h2 y (List.mem_cons_of_mem _ hy)), fun a ha b hb e => nd.1 ?_⟩
    obtain ⟨y, hy, hby⟩ := List.mem_flatMap.1 hb
    subst e
    rw [h2 x List.mem_cons_self a ha, ← h2 y (List.mem_cons_of_mem _ hy) a hby]
    exact List.mem_map.2 ⟨y, hy, rfl⟩
def cardsA (n per : Int) (A : Abs) (hm : Int) : List Int := (rng (n * per)).filter (hasA n per A hm)
theorem div_of {s per j : Int} (h0 : 0 ≤ j) (h1 : j < per) : (s * per + j) / per = s ∧ (s * per + j) % per = j := by
  have : 0 < per := by omega
  rw [Int.add_comm, Int.add_mul_ediv_right _ _ (by omega), Int.add_mul_emod_self_right, Int.ediv_eq_zero_of_lt h0 h1, Int.emod_eq_of_lt h0 h1]
  omega
theorem cards_mem {n per : Int} {A : Abs} {sp : List SpE} {fi : List FiE} {co : List (Int × Int)} (C : RCfg n per) (g : GoodG n per A sp fi co) {hm : Int} (hr : 0 ≤ hm ∧ hm < n) (c : Int) :
    c ∈ cardsL hm per sp fi co ↔ hasA n per A hm c = true := by
  have p1 := C.p1
  have rngc : ∀ s j : Int, 0 ≤ s → s < n → 0 ≤ j → j < per → 0 ≤ s * per + j ∧ s * per + j < n * per := fun s j h1 h2 h3 h4 => by
    have a1 : 0 ≤ s * per := Int.mul_nonneg h1 (by omega)
    have a2 : (s + 1) * per ≤ n * per := Int.mul_le_mul_of_nonneg_right (by omega) (by omega)
    rw [Int.add_mul, Int.one_mul] at a2
    omega
  unfold cardsL
  rw [List.mem_append, List.mem_append, List.mem_flatMap, List.mem_flatMap, List.mem_flatMap]
  constructor
  · rintro ((⟨e, he, hc⟩ | ⟨e, he, hc⟩) | ⟨k, hk, hc⟩)
    · unfold spF at hc
      split at hc
      · rename_i ek
        obtain ⟨ok, eA, _, _, _, hl⟩ := g.spk e he
        obtain ⟨h0, h1, h2⟩ := hl c hc
        unfold hasA
        rw [if_pos ⟨hr.1, hr.2, h0, h1⟩, h2, show (hm, e.k.2) = e.k by rw [← ek], eA]
        exact decide_eq_true hc
      · cases hc
    · unfold fiF at hc
      split at hc
      · rename_i ek
        obtain ⟨j, hj, rfl⟩ := List.mem_map.1 hc
        obtain ⟨ok, eA, _⟩ := g.fik e he
        obtain ⟨j0, j1, j2⟩ := elems_mem hj
        have jp : j < per := by omega
        unfold okK at ok
        obtain ⟨r0, r1⟩ := rngc e.k.2 j ok.2.2.1 ok.2.2.2.1 j0 jp
        obtain ⟨d1, d2⟩ := div_of (s := e.k.2) j0 jp
        unfold hasA
        rw [if_pos ⟨hr.1, hr.2, r0, r1⟩, d1, show (hm, e.k.2) = e.k by rw [← ek], eA]
        show e.S ((e.k.2 * per + j) % per).toNat = true
        rw [d2]; exact j2
      · cases hc
    · unfold coF at hc
      split at hc
      · rename_i ek
        obtain ⟨j, hj, rfl⟩ := List.mem_map.1 hc
        have hj := List.mem_range.1 hj
        obtain ⟨ok, eA⟩ := g.cok k hk
        have jp : (j : Int) < per := by omega
        unfold okK at ok
        obtain ⟨r0, r1⟩ := rngc k.2 j ok.2.2.1 ok.2.2.2.1 (by omega) jp
        obtain ⟨d1, d2⟩ := div_of (s := k.2) (j := (j : Int)) (by omega) jp
        unfold hasA
        rw [if_pos ⟨hr.1, hr.2, r0, r1⟩, d1, show (hm, k.2) = k by rw [← ek], eA]
        rfl
      · cases hc
  · intro h
    unfold hasA at h
    split at h
    · rename_i hc
      have ed : c = c / per * per + c % per := by have := Int.mul_ediv_add_emod c per; rw [Int.mul_comm] at this; omega
      have m0 := Int.emod_nonneg c (show per ≠ 0 by omega)
      have m1 := Int.emod_lt_of_pos c (show 0 < per by omega)
      rcases g.src (hm, c / per) with ⟨hk, eA⟩ | ⟨e, he, hek, hnc, eA⟩ | ⟨⟨e, he, hek, eA⟩, hnc, hnf⟩ | ⟨hns, hnc, hnf, eA⟩
      · refine .inr ⟨_, hk, ?_⟩
        unfold coF
        rw [if_pos rfl]
        refine List.mem_map.2 ⟨(c % per).toNat, List.mem_range.2 (by omega), ?_⟩
        show c / per * per + ((c % per).toNat : Int) = c
        omega
      · refine .inl (.inr ⟨e, he, ?_⟩)
        unfold fiF
        rw [if_pos (by rw [hek])]
        rw [eA] at h
        refine List.mem_map.2 ⟨c % per, elems_iff.2 ⟨m0, by omega, h⟩, ?_⟩
        rw [hek]; exact ed.symm
      · refine .inl (.inl ⟨e, he, ?_⟩)
        unfold spF
        rw [if_pos (by rw [hek])]
        rw [eA] at h
        exact of_decide_eq_true h
      · rw [eA] at h; cases h
    · cases h
theorem cards_nodup {n per : Int} {A : Abs} {sp : List SpE} {fi : List FiE} {co : List (Int × Int)} (C : RCfg n per) (g : GoodG n per A sp fi co) (nds : (sp.map (·.k)).Nodup) (ndf : (fi.map (·.k)).Nodup) (ndc : co.Nodup) (hm : Int) :
    (cardsL hm per sp fi co).Nodup := by
  have p1 := C.p1
  have inj : ∀ s : Int, Function.Injective fun c : Int => s * per + c := fun s a b e => by have e : s * per + a = s * per + b := e; omega
  have k1 : ∀ e ∈ sp, ∀ c ∈ spF hm e, e.k = (hm, c / per) := fun e he c hc => by
    unfold spF at hc
    split at hc
    · rename_i ek
      rw [((g.spk e he).2.2.2.2.2 c hc).2.2, ← ek]
    · cases hc
  have k2 : ∀ e ∈ fi, ∀ c ∈ fiF hm per e, e.k = (hm, c / per) := fun e he c hc => by
    unfold fiF at hc
    split at hc
    · rename_i ek
      obtain ⟨j, hj, rfl⟩ := List.mem_map.1 hc
      obtain ⟨j0, j1, _⟩ := elems_mem hj
      rw [(div_of (s := e.k.2) j0 (show j < per by omega)).1, ← ek]
    · cases hc
  have k3 : ∀ k ∈ co, ∀ c ∈ coF hm per k, k = (hm, c / per) := fun k hk c hc => by
    unfold coF at hc
    split at hc
    · rename_i ek
      obtain ⟨j, hj, rfl⟩ := List.mem_map.1 hc
      have hj := List.mem_range.1 hj
      rw [(div_of (s := k.2) (j := (j : Int)) (by omega) (show (j : Int) < per by omega)).1, ← ek]
    · cases hc
  unfold cardsL
  refine List.nodup_append.2 ⟨List.nodup_append.2 ⟨nodup_flat (f := fun c => (hm, c / per)) nds (fun e he => ?_) k1, nodup_flat (f := fun c => (hm, c / per)) ndf (fun e he => ?_) k2, fun a ha b hb e => ?_⟩, nodup_flat (key := id) (f := fun c => (hm, c / per)) (by simpa using ndc) (fun k hk => ?_) k3, fun a ha b hb e => ?_⟩
  · unfold spF
    split
    · exact (g.spk e he).2.2.2.2.1
    · exact List.nodup_nil
  · unfold fiF
    split
    · exact List.pairwise_map.2 ((elems_sorted e.S per.toNat).imp fun h e' => by omega)
    · exact List.nodup_nil
  · obtain ⟨x, hx, hax⟩ := List.mem_flatMap.1 ha
    obtain ⟨y, hy, hby⟩ := List.mem_flatMap.1 hb
    subst e
    exact g.fs y hy (List.mem_map.2 ⟨x, hx, by rw [k1 x hx a hax, k2 y hy a hby]⟩)
  · unfold coF
    split
    · exact List.pairwise_map.2 (List.pairwise_lt_range.imp fun h e' => by omega)
    · exact List.nodup_nil
  · obtain ⟨y, hy, hby⟩ := List.mem_flatMap.1 hb
    subst e
    rcases List.mem_append.1 ha with ha | ha
    · obtain ⟨x, hx, hax⟩ := List.mem_flatMap.1 ha
      exact g.cs y hy (List.mem_map.2 ⟨x, hx, by rw [k1 x hx a hax, k3 y hy a hby]⟩)
    · obtain ⟨x, hx, hax⟩ := List.mem_flatMap.1 ha
      exact g.fc x hx (by rw [k2 x hx a hax, ← k3 y hy a hby]; exact hy)
theorem cards_eq {n per : Int} {A : Abs} {sp : List SpE} {fi : List FiE} {co : List (Int × Int)} (C : RCfg n per) (g : GoodG n per A sp fi co) (nds : (sp.map (·.k)).Nodup) (ndf : (fi.map (·.k)).Nodup) (ndc : co.Nodup) {hm : Int} (hr : 0 ≤ hm ∧ hm < n) :
    (cardsL hm per sp fi co).Perm (cardsA n per A hm) := by
  refine (List.perm_ext_iff_of_nodup (cards_nodup C g nds ndf ndc hm) ?_).2 fun c => ?_
  · exact ((rng_sorted (n * per)).imp fun h e => by omega).filter _
  · rw [cards_mem C g hr]
    unfold cardsA
    rw [List.mem_filter, rng_mem]
    refine ⟨fun h => ⟨?_, h⟩, fun h => h.2⟩
    unfold hasA at h
    split at h
    · rename_i hc; exact hc.2.2
    · cases h
def dropA (A : Abs) (q : Int × Int → Bool) : Abs := fun k => if q k then .sp [] else A k
theorem good_drop {n per : Int} {A : Abs} {sp : List SpE} {fi : List FiE} {co : List (Int × Int)} (g : GoodG n per A sp fi co) (q : Int × Int → Bool) : GoodG n per (dropA A q) (sp.filter fun x => !q x.k) (fi.filter fun x => !q x.k) (co.filter fun k => !q k) where
  spk e he := by
    obtain ⟨he, hq⟩ := List.mem_filter.1 he
    obtain ⟨a, b, c⟩ := g.spk e he
    exact ⟨a, by unfold dropA; rw [if_neg (by simpa using hq)]; exact b, c⟩
  fik e he := by
    obtain ⟨he, hq⟩ := List.mem_filter.1 he
    obtain ⟨a, b, c⟩ := g.fik e he
    exact ⟨a, by unfold dropA; rw [if_neg (by simpa using hq)]; exact b, c⟩
  cok k hk := by
    obtain ⟨hk, hq⟩ := List.mem_filter.1 hk
    obtain ⟨a, b⟩ := g.cok k hk
    exact ⟨a, by unfold dropA; rw [if_neg (by simpa using hq)]; exact b⟩
  non k a b c := by
    unfold dropA
    by_cases hq : q k = true
    · rw [if_pos hq]
    · rw [if_neg hq]
      have hq : q k = false := by simpa using hq
      refine g.non k (fun h => a ?_) (fun h => b ?_) (fun h => c (List.mem_filter.2 ⟨h, by simp [hq]⟩))
      · obtain ⟨x, hx, rfl⟩ := List.mem_map.1 h
        exact List.mem_map.2 ⟨x, List.mem_filter.2 ⟨hx, by simp [hq]⟩, rfl⟩
      · obtain ⟨x, hx, rfl⟩ := List.mem_map.1 h
        exact List.mem_map.2 ⟨x, List.mem_filter.2 ⟨hx, by simp [hq]⟩, rfl⟩
  five hm := Nat.le_trans (sub_flat _ List.filter_sublist).length_le (g.five hm)
def inR (n r : Int) : Bool := decide (0 ≤ r ∧ r < n)
def clearA (n : Int) (A : Abs) (r : Int) : Abs := if inR n r then dropA A fun p => decide (p.1 = r) else A
def scrubA (n : Int) (A : Abs) (r : Int) : Abs := if inR n r then dropA A fun p => decide (p.2 = r) else A
theorem Clear_RS {w : World} {b : Nat} {B : Nat → Prop} {n per : Int} {A : Abs} (r : Int) (h : RS w b B n per A) :
    CallC Pr f_remset_Sets_Clear [.pointer (some ⟨b, 0, none⟩), .int .i64 r] w (fun v w' => v = .int .i64 (if inR n r then 0 else 2) ∧ RS w' b B n per (clearA n A r) ∧ Fr B w w') := by
  obtain ⟨m1, m2, m3, sp, fi, co, hG, g, hB, hBs⟩ := id h
  by_cases hr : 0 ≤ r ∧ r < n
  · unfold clearA inR
    rw [decide_eq_true hr]
    refine CallC_intro (Clear_spec r w hG hr) (fun v w' ⟨hv, hS, f⟩ => ⟨hv, ⟨m1, m2, m3, _, _, _, hS, good_drop g fun p => decide (p.1 = r), fun x hx => hB x ?_, fun e he => hBs e (List.mem_filter.1 he).1⟩, f.weak fun x _ e => ?_⟩)
    · exact restB_sub List.filter_sublist x hx
    · rcases e with e | e | e <;> (rw [e]; exact hB _ (by simp [restB]))
  · unfold clearA inR
    rw [decide_eq_false hr]
    exact CallC_intro (Clear_out r w hG.tab hr) (fun v w' ⟨hv, f⟩ => ⟨hv, h.keep f (fun _ _ => id), f.weak fun _ _ e => e.elim⟩)
theorem Scrub_RS {w : World} {b : Nat} {B : Nat → Prop} {n per : Int} {A : Abs} (r : Int) (h : RS w b B n per A) :
    CallC Pr f_remset_Sets_Scrub [.pointer (some ⟨b, 0, none⟩), .int .i64 r] w (fun v w' => v = .int .i64 (if inR n r then 0 else 2) ∧ RS w' b B n per (scrubA n A r) ∧ Fr B w w') := by
  obtain ⟨m1, m2, m3, sp, fi, co, hG, g, hB, hBs⟩ := id h
  by_cases hr : 0 ≤ r ∧ r < n
  · unfold scrubA inR
    rw [decide_eq_true hr]
    refine CallC_intro (Scrub_spec r w hG hr) (fun v w' ⟨hv, hS, f⟩ => ⟨hv, ⟨m1, m2, m3, _, _, _, hS, good_drop g fun p => decide (p.2 = r), fun x hx => hB x ?_, fun e he => hBs e (List.mem_filter.1 he).1⟩, f.weak fun x _ e => ?_⟩)
    · exact restB_sub List.filter_sublist x hx
    · rcases e with e | e | e <;> (rw [e]; exact hB _ (by simp [restB]))
  · unfold scrubA inR
    rw [decide_eq_false hr]
    exact CallC_intro (Scrub_out r w hG.tab hr) (fun v w' ⟨hv, f⟩ => ⟨hv, h.keep f (fun _ _ => id), f.weak fun _ _ e => e.elim⟩)
theorem RS.trim {w : World} {b : Nat} {B : Nat → Prop} {n per : Int} {A : Abs} (h : RS w b B n per A) : RS w b (fun x => B x ∧ x < w.heap.size) n per A := by
  obtain ⟨m1, m2, m3, sp, fi, co, hG, g, hB, hBs⟩ := h
  exact ⟨m1, m2, m3, sp, fi, co, hG, g, fun x hx => ⟨hB x hx, hG.rest_lt x hx⟩, fun e he => ⟨hBs e he, spV_lt (hG.rows e he)⟩⟩
theorem RS.sub {w : World} {b : Nat} {B B' : Nat → Prop} {n per : Int} {A : Abs} (h : RS w b B n per A) (hs : ∀ x, B x → B' x) : RS w b B' n per A := by
  obtain ⟨m1, m2, m3, sp, fi, co, hG, g, hB, hBs⟩ := h
  exact ⟨m1, m2, m3, sp, fi, co, hG, g, fun x hx => hs x (hB x hx), fun e he => hs _ (hBs e he)⟩
/-- New sets. -/
theorem new_RS {w : World} {b m1 m2 m3 : Nat} {n per : Int} (h : SetsG w b m1 m2 m3 n per [] [] []) : RS w b (fun x => x ∈ [b, m1, m2, m3]) n per (fun _ => .sp []) :=
  ⟨m1, m2, m3, [], [], [], h, ⟨fun e he => (by cases he), fun e he => (by cases he), fun e he => (by cases he), fun _ _ _ _ => rfl, fun _ => Nat.zero_le _⟩, fun x hx => hx, fun e he => (by cases he)⟩
end Go.Proofs.YtdhbpklmkibmbaaGreat
