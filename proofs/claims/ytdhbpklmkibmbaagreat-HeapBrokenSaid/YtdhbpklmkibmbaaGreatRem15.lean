/- Layer 11 (remset): forget, Clear, Scrub. -/
import Derived.Test.YtdhbpklmkibmbaaGreatRem14
import Derived.Test.YtdhbpklmkibmbaaGreatMapD
namespace Go.Proofs.YtdhbpklmkibmbaaGreat
open Go.Vc

theorem Clear_1_spec {c3 u3 : Nat} (r : Int) (p : Int × Int) (w : World) (h3 : Blk w c3 u3 [.int .i64 r]) :
    CallC Pr f_remset_Sets_Clear_1 [.agg (pairL p).toArray, .pointer (some ⟨c3, 0, none⟩)] w (fun v w' => v = .bool (decide (p.1 = r)) ∧ Fr No w w') := by
  refine call_sound T_ok fun_remset_Sets_Clear_1 rfl (by kernel_rfl) rfl (Kp ?_)
  refine NewC_blk (fun q w1 e_q h1 f1 s1 => ?_)
  have h1 : Blk w1 q t_remset_pair (pairL p) := h1
  refine LdC_blk (h1) rfl ?_
  refine LdC_blk (h3.keep f1 id) rfl ?_
  exact ⟨rfl, f1⟩
theorem forget_1_Clear {c3 u3 c5 u5 : Nat} (r : Int) (p : Int × Int) (v : Value) (w : World) (h3 : Blk w c3 u3 [.int .i64 r]) (h5 : Blk w c5 u5 [.func (.func f_remset_Sets_Clear_1) #[] #[.pointer (some ⟨c3, 0, none⟩)]]) :
    CallC Pr f_remset_Sets_forget_1 [.agg (pairL p).toArray, v, .pointer (some ⟨c5, 0, none⟩)] w (fun v w' => v = .bool (decide (p.1 = r)) ∧ Fr No w w') := by
  refine call_sound T_ok fun_remset_Sets_forget_1 rfl (by kernel_rfl) rfl (Kp ?_)
  refine NewC_blk (fun q w1 e_q h1 f1 s1 => ?_)
  have h1 : Blk w1 q t_remset_pair (pairL p) := h1
  refine LdC_blk (h5.keep f1 id) rfl ?_
  refine LdN_blk (vs := pairL p) (h1) rfl rfl ?_
  refine CallC_intro (Clear_1_spec r p w1 (h3.keep f1 id)) (fun v w2 ⟨hv, f2⟩ => ?_)
  subst hv
  exact ⟨rfl, f1.no f2⟩
theorem forget_2_Clear {c3 u3 c5 u5 : Nat} (r : Int) (p : Int × Int) (v : Value) (w : World) (h3 : Blk w c3 u3 [.int .i64 r]) (h5 : Blk w c5 u5 [.func (.func f_remset_Sets_Clear_1) #[] #[.pointer (some ⟨c3, 0, none⟩)]]) :
    CallC Pr f_remset_Sets_forget_2 [.agg (pairL p).toArray, v, .pointer (some ⟨c5, 0, none⟩)] w (fun v w' => v = .bool (decide (p.1 = r)) ∧ Fr No w w') := by
  refine call_sound T_ok fun_remset_Sets_forget_2 rfl (by kernel_rfl) rfl (Kp ?_)
  refine NewC_blk (fun q w1 e_q h1 f1 s1 => ?_)
  have h1 : Blk w1 q t_remset_pair (pairL p) := h1
  refine LdC_blk (h5.keep f1 id) rfl ?_
  refine LdN_blk (vs := pairL p) (h1) rfl rfl ?_
  refine CallC_intro (Clear_1_spec r p w1 (h3.keep f1 id)) (fun v w2 ⟨hv, f2⟩ => ?_)
  subst hv
  exact ⟨rfl, f1.no f2⟩
theorem forget_3_Clear {c3 u3 c5 u5 : Nat} (r : Int) (p : Int × Int) (v : Value) (w : World) (h3 : Blk w c3 u3 [.int .i64 r]) (h5 : Blk w c5 u5 [.func (.func f_remset_Sets_Clear_1) #[] #[.pointer (some ⟨c3, 0, none⟩)]]) :
    CallC Pr f_remset_Sets_forget_3 [.agg (pairL p).toArray, v, .pointer (some ⟨c5, 0, none⟩)] w (fun v w' => v = .bool (decide (p.1 = r)) ∧ Fr No w w') := by
  refine call_sound T_ok fun_remset_Sets_forget_3 rfl (by kernel_rfl) rfl (Kp ?_)
  refine NewC_blk (fun q w1 e_q h1 f1 s1 => ?_)
  have h1 : Blk w1 q t_remset_pair (pairL p) := h1
  refine LdC_blk (h5.keep f1 id) rfl ?_
  refine LdN_blk (vs := pairL p) (h1) rfl rfl ?_
  refine CallC_intro (Clear_1_spec r p w1 (h3.keep f1 id)) (fun v w2 ⟨hv, f2⟩ => ?_)
  subst hv
  exact ⟨rfl, f1.no f2⟩
theorem Clear_spec {b m1 m2 m3 : Nat} {n per : Int} {sp : List SpE} {fi : List FiE} {co : List (Int × Int)} (r : Int) (w : World) (h : SetsG w b m1 m2 m3 n per sp fi co) (hr : 0 ≤ r ∧ r < n) :
    CallC Pr f_remset_Sets_Clear [.pointer (some ⟨b, 0, none⟩), .int .i64 r] w (fun v w' => v = .int .i64 0 ∧ SetsG w' b m1 m2 m3 n per (sp.filter fun x => !decide (x.k.1 = r)) (fi.filter fun x => !decide (x.k.1 = r)) (co.filter fun p => !decide (p.1 = r)) ∧ Fr (fun x => x = m1 ∨ x = m2 ∨ x = m3) w w') := by
  have rl := h.rest_lt
  have hb := rl b (by simp [restB])
  have l1 := rl m1 (by simp [restB])
  have l2 := rl m2 (by simp [restB])
  have l3 := rl m3 (by simp [restB])
  have hnd := h.rs
  unfold restB at hnd
  simp only [List.nodup_cons, List.mem_cons, not_or] at hnd
  obtain ⟨⟨n1, n2, n3, n4⟩, ⟨n5, n6, n7⟩, ⟨n8, n9⟩, n10, n11⟩ := hnd
  refine call_sound T_ok fun_remset_Sets_Clear rfl (by kernel_rfl) rfl (Kp ?_)
  refine NewC_blk (fun c3 w1 e_c3 h3 f1 s1 => ?_)
  refine LdC_blk (h3) rfl ?_
  refine call_sound T_ok fun_remset_Sets_forget rfl (by kernel_rfl) rfl (Kp ?_)
  refine NewC_blk (fun c5 w2 e_c5 h5 f2 s2 => ?_)
  have F2 := f1.no f2
  have z1 := f1.size
  have H2 := h.keep F2 (fun _ _ => id) (fun _ _ => id)
  have h32 := h3.keep f2 id
  refine CallC_intro (rregion_spec r w2 H2.tab) (fun v w3 ⟨hv, f3⟩ => ?_)
  rw [decide_eq_true hr] at hv
  subst hv
  have F3 := F2.no f3
  have H3 := H2.keep f3 (fun _ _ => id) (fun _ _ => id)
  have h33 := h32.keep f3 id
  have h53 := h5.keep f3 id
  have z3 := f3.size
  refine LdC_blk (H3.tab) rfl ?_
  refine CallC_intro (DelF_sp (.pointer (some ⟨c5, 0, none⟩)) (fun p => decide (p.1 = r)) w3 H3.map1 (fun k v w' f => forget_1_Clear r k v w' (h33.keep f (by omega)) (h53.keep f (by omega)))) (fun v w4 ⟨hM1, f4⟩ => ?_)
  have z4 := f4.size
  have t4 := H3.tab.keep f4 n1
  have M2 := H3.map2.keep f4 (fun e => n5 e.symm)
  have M3 := H3.map3.keep f4 (fun e => n6 e.symm)
  have h34 := h33.keep f4 (by omega)
  have h54 := h53.keep f4 (by omega)
  refine LdC_blk (t4) rfl ?_
  refine CallC_intro (DelF_fi (.pointer (some ⟨c5, 0, none⟩)) (fun p => decide (p.1 = r)) w4 M2 (fun k v w' f => forget_2_Clear r k v w' (h34.keep f (by omega)) (h54.keep f (by omega)))) (fun v w5 ⟨hM2, f5⟩ => ?_)
  have z5 := f5.size
  have t5 := t4.keep f5 n2
  have M1 := hM1.keep f5 n5
  have M3 := M3.keep f5 (fun e => n8 e.symm)
  have h35 := h34.keep f5 (by omega)
  have h55 := h54.keep f5 (by omega)
  refine LdC_blk (t5) rfl ?_
  refine CallC_intro (DelF_co (.pointer (some ⟨c5, 0, none⟩)) (fun p => decide (p.1 = r)) w5 M3 (fun k v w' f => forget_3_Clear r k v w' (h35.keep f (by omega)) (h55.keep f (by omega)))) (fun v w6 ⟨hM3, f6⟩ => ?_)
  have M1 := M1.keep f6 n6
  have M2 := hM2.keep f6 n8
  have F36 : Fr (fun x => x = m1 ∨ x = m2 ∨ x = m3) w3 w6 := ((f4.weak (fun _ _ e => .inl e)).trans f5 (fun _ _ e => e) (fun _ _ e => .inr (.inl e))).trans f6 (fun _ _ e => e) (fun _ _ e => .inr (.inr e))
  have e1 : (spM sp).filter (fun x => !decide (x.1.1 = r)) = spM (sp.filter fun x => !decide (x.k.1 = r)) := by unfold spM; rw [List.filter_map]; rfl
  have e2 : (fiM fi).filter (fun x => !decide (x.1.1 = r)) = fiM (fi.filter fun x => !decide (x.k.1 = r)) := by unfold fiM; rw [List.filter_map]; rfl
  have e3 : (coM co).filter (fun x => !decide (x.1.1 = r)) = coM (co.filter fun p => !decide (p.1 = r)) := by unfold coM; rw [List.filter_map]; rfl
  have M1 : MapG pairV w6 m1 (spM (sp.filter fun x => !decide (x.k.1 = r))) := by rw [← e1]; exact M1
  have M2 : MapG pairV w6 m2 (fiM (fi.filter fun x => !decide (x.k.1 = r))) := by rw [← e2]; exact M2
  have M3 : MapG pairV w6 m3 (coM (co.filter fun p => !decide (p.1 = r))) := by rw [← e3]; exact hM3
  exact ⟨rfl, H3.less List.filter_sublist List.filter_sublist F36 (fun _ e => e) M1 M2 M3, F3.noL F36⟩
theorem Clear_out {b m1 m2 m3 : Nat} {n per : Int} (r : Int) (w : World) (h : Blk w b t_remset_Sets (setsL n per m1 m2 m3)) (hr : ¬ (0 ≤ r ∧ r < n)) :
    CallC Pr f_remset_Sets_Clear [.pointer (some ⟨b, 0, none⟩), .int .i64 r] w (fun v w' => v = .int .i64 2 ∧ Fr No w w') := by
  refine call_sound T_ok fun_remset_Sets_Clear rfl (by kernel_rfl) rfl (Kp ?_)
  refine NewC_blk (fun c3 w1 e_c3 h3 f1 s1 => ?_)
  refine LdC_blk (h3) rfl ?_
  refine call_sound T_ok fun_remset_Sets_forget rfl (by kernel_rfl) rfl (Kp ?_)
  refine NewC_blk (fun c5 w2 e_c5 h5 f2 s2 => ?_)
  have F2 := f1.no f2
  refine CallC_intro (rregion_spec r w2 (h.keep F2 id)) (fun v w3 ⟨hv, f3⟩ => ?_)
  rw [decide_eq_false hr] at hv
  subst hv
  exact ⟨rfl, F2.no f3⟩
theorem Scrub_1_spec {c3 u3 : Nat} (r : Int) (p : Int × Int) (w : World) (h3 : Blk w c3 u3 [.int .i64 r]) :
    CallC Pr f_remset_Sets_Scrub_1 [.agg (pairL p).toArray, .pointer (some ⟨c3, 0, none⟩)] w (fun v w' => v = .bool (decide (p.2 = r)) ∧ Fr No w w') := by
  refine call_sound T_ok fun_remset_Sets_Scrub_1 rfl (by kernel_rfl) rfl (Kp ?_)
  refine NewC_blk (fun q w1 e_q h1 f1 s1 => ?_)
  have h1 : Blk w1 q t_remset_pair (pairL p) := h1
  refine LdC_blk (h1) rfl ?_
  refine LdC_blk (h3.keep f1 id) rfl ?_
  exact ⟨rfl, f1⟩
theorem forget_1_Scrub {c3 u3 c5 u5 : Nat} (r : Int) (p : Int × Int) (v : Value) (w : World) (h3 : Blk w c3 u3 [.int .i64 r]) (h5 : Blk w c5 u5 [.func (.func f_remset_Sets_Scrub_1) #[] #[.pointer (some ⟨c3, 0, none⟩)]]) :
    CallC Pr f_remset_Sets_forget_1 [.agg (pairL p).toArray, v, .pointer (some ⟨c5, 0, none⟩)] w (fun v w' => v = .bool (decide (p.2 = r)) ∧ Fr No w w') := by
  refine call_sound T_ok fun_remset_Sets_forget_1 rfl (by kernel_rfl) rfl (Kp ?_)
  refine NewC_blk (fun q w1 e_q h1 f1 s1 => ?_)
  have h1 : Blk w1 q t_remset_pair (pairL p) := h1
  refine LdC_blk (h5.keep f1 id) rfl ?_
  refine LdN_blk (vs := pairL p) (h1) rfl rfl ?_
  refine CallC_intro (Scrub_1_spec r p w1 (h3.keep f1 id)) (fun v w2 ⟨hv, f2⟩ => ?_)
  subst hv
  exact ⟨rfl, f1.no f2⟩
theorem forget_2_Scrub {c3 u3 c5 u5 : Nat} (r : Int) (p : Int × Int) (v : Value) (w : World) (h3 : Blk w c3 u3 [.int .i64 r]) (h5 : Blk w c5 u5 [.func (.func f_remset_Sets_Scrub_1) #[] #[.pointer (some ⟨c3, 0, none⟩)]]) :
    CallC Pr f_remset_Sets_forget_2 [.agg (pairL p).toArray, v, .pointer (some ⟨c5, 0, none⟩)] w (fun v w' => v = .bool (decide (p.2 = r)) ∧ Fr No w w') := by
  refine call_sound T_ok fun_remset_Sets_forget_2 rfl (by kernel_rfl) rfl (Kp ?_)
  refine NewC_blk (fun q w1 e_q h1 f1 s1 => ?_)
  have h1 : Blk w1 q t_remset_pair (pairL p) := h1
  refine LdC_blk (h5.keep f1 id) rfl ?_
  refine LdN_blk (vs := pairL p) (h1) rfl rfl ?_
  refine CallC_intro (Scrub_1_spec r p w1 (h3.keep f1 id)) (fun v w2 ⟨hv, f2⟩ => ?_)
  subst hv
  exact ⟨rfl, f1.no f2⟩
theorem forget_3_Scrub {c3 u3 c5 u5 : Nat} (r : Int) (p : Int × Int) (v : Value) (w : World) (h3 : Blk w c3 u3 [.int .i64 r]) (h5 : Blk w c5 u5 [.func (.func f_remset_Sets_Scrub_1) #[] #[.pointer (some ⟨c3, 0, none⟩)]]) :
    CallC Pr f_remset_Sets_forget_3 [.agg (pairL p).toArray, v, .pointer (some ⟨c5, 0, none⟩)] w (fun v w' => v = .bool (decide (p.2 = r)) ∧ Fr No w w') := by
  refine call_sound T_ok fun_remset_Sets_forget_3 rfl (by kernel_rfl) rfl (Kp ?_)
  refine NewC_blk (fun q w1 e_q h1 f1 s1 => ?_)
  have h1 : Blk w1 q t_remset_pair (pairL p) := h1
  refine LdC_blk (h5.keep f1 id) rfl ?_
  refine LdN_blk (vs := pairL p) (h1) rfl rfl ?_
  refine CallC_intro (Scrub_1_spec r p w1 (h3.keep f1 id)) (fun v w2 ⟨hv, f2⟩ => ?_)
  subst hv
  exact ⟨rfl, f1.no f2⟩
theorem Scrub_spec {b m1 m2 m3 : Nat} {n per : Int} {sp : List SpE} {fi : List FiE} {co : List (Int × Int)} (r : Int) (w : World) (h : SetsG w b m1 m2 m3 n per sp fi co) (hr : 0 ≤ r ∧ r < n) :
    CallC Pr f_remset_Sets_Scrub [.pointer (some ⟨b, 0, none⟩), .int .i64 r] w (fun v w' => v = .int .i64 0 ∧ SetsG w' b m1 m2 m3 n per (sp.filter fun x => !decide (x.k.2 = r)) (fi.filter fun x => !decide (x.k.2 = r)) (co.filter fun p => !decide (p.2 = r)) ∧ Fr (fun x => x = m1 ∨ x = m2 ∨ x = m3) w w') := by
  have rl := h.rest_lt
  have hb := rl b (by simp [restB])
  have l1 := rl m1 (by simp [restB])
  have l2 := rl m2 (by simp [restB])
  have l3 := rl m3 (by simp [restB])
  have hnd := h.rs
  unfold restB at hnd
  simp only [List.nodup_cons, List.mem_cons, not_or] at hnd
  obtain ⟨⟨n1, n2, n3, n4⟩, ⟨n5, n6, n7⟩, ⟨n8, n9⟩, n10, n11⟩ := hnd
  refine call_sound T_ok fun_remset_Sets_Scrub rfl (by kernel_rfl) rfl (Kp ?_)
  refine NewC_blk (fun c3 w1 e_c3 h3 f1 s1 => ?_)
  refine LdC_blk (h3) rfl ?_
  refine call_sound T_ok fun_remset_Sets_forget rfl (by kernel_rfl) rfl (Kp ?_)
  refine NewC_blk (fun c5 w2 e_c5 h5 f2 s2 => ?_)
  have F2 := f1.no f2
  have z1 := f1.size
  have H2 := h.keep F2 (fun _ _ => id) (fun _ _ => id)
  have h32 := h3.keep f2 id
  refine CallC_intro (rregion_spec r w2 H2.tab) (fun v w3 ⟨hv, f3⟩ => ?_)
  rw [decide_eq_true hr] at hv
  subst hv
  have F3 := F2.no f3
  have H3 := H2.keep f3 (fun _ _ => id) (fun _ _ => id)
  have h33 := h32.keep f3 id
  have h53 := h5.keep f3 id
  have z3 := f3.size
  refine LdC_blk (H3.tab) rfl ?_
  refine CallC_intro (DelF_sp (.pointer (some ⟨c5, 0, none⟩)) (fun p => decide (p.2 = r)) w3 H3.map1 (fun k v w' f => forget_1_Scrub r k v w' (h33.keep f (by omega)) (h53.keep f (by omega)))) (fun v w4 ⟨hM1, f4⟩ => ?_)
  have z4 := f4.size
  have t4 := H3.tab.keep f4 n1
  have M2 := H3.map2.keep f4 (fun e => n5 e.symm)
  have M3 := H3.map3.keep f4 (fun e => n6 e.symm)
  have h34 := h33.keep f4 (by omega)
  have h54 := h53.keep f4 (by omega)
  refine LdC_blk (t4) rfl ?_
  refine CallC_intro (DelF_fi (.pointer (some ⟨c5, 0, none⟩)) (fun p => decide (p.2 = r)) w4 M2 (fun k v w' f => forget_2_Scrub r k v w' (h34.keep f (by omega)) (h54.keep f (by omega)))) (fun v w5 ⟨hM2, f5⟩ => ?_)
  have z5 := f5.size
  have t5 := t4.keep f5 n2
  have M1 := hM1.keep f5 n5
  have M3 := M3.keep f5 (fun e => n8 e.symm)
  have h35 := h34.keep f5 (by omega)
  have h55 := h54.keep f5 (by omega)
  refine LdC_blk (t5) rfl ?_
  refine CallC_intro (DelF_co (.pointer (some ⟨c5, 0, none⟩)) (fun p => decide (p.2 = r)) w5 M3 (fun k v w' f => forget_3_Scrub r k v w' (h35.keep f (by omega)) (h55.keep f (by omega)))) (fun v w6 ⟨hM3, f6⟩ => ?_)
  have M1 := M1.keep f6 n6
  have M2 := hM2.keep f6 n8
  have F36 : Fr (fun x => x = m1 ∨ x = m2 ∨ x = m3) w3 w6 := ((f4.weak (fun _ _ e => .inl e)).trans f5 (fun _ _ e => e) (fun _ _ e => .inr (.inl e))).trans f6 (fun _ _ e => e) (fun _ _ e => .inr (.inr e))
  have e1 : (spM sp).filter (fun x => !decide (x.1.2 = r)) = spM (sp.filter fun x => !decide (x.k.2 = r)) := by unfold spM; rw [List.filter_map]; rfl
  have e2 : (fiM fi).filter (fun x => !decide (x.1.2 = r)) = fiM (fi.filter fun x => !decide (x.k.2 = r)) := by unfold fiM; rw [List.filter_map]; rfl
  have e3 : (coM co).filter (fun x => !decide (x.1.2 = r)) = coM (co.filter fun p => !decide (p.2 = r)) := by unfold coM; rw [List.filter_map]; rfl
  have M1 : MapG pairV w6 m1 (spM (sp.filter fun x => !decide (x.k.2 = r))) := by rw [← e1]; exact M1
  have M2 : MapG pairV w6 m2 (fiM (fi.filter fun x => !decide (x.k.2 = r))) := by rw [← e2]; exact M2
  have M3 : MapG pairV w6 m3 (coM (co.filter fun p => !decide (p.2 = r))) := by rw [← e3]; exact hM3
  exact ⟨rfl, H3.less List.filter_sublist List.filter_sublist F36 (fun _ e => e) M1 M2 M3, F3.noL F36⟩
theorem Scrub_out {b m1 m2 m3 : Nat} {n per : Int} (r : Int) (w : World) (h : Blk w b t_remset_Sets (setsL n per m1 m2 m3)) (hr : ¬ (0 ≤ r ∧ r < n)) :
    CallC Pr f_remset_Sets_Scrub [.pointer (some ⟨b, 0, none⟩), .int .i64 r] w (fun v w' => v = .int .i64 2 ∧ Fr No w w') := by
  refine call_sound T_ok fun_remset_Sets_Scrub rfl (by kernel_rfl) rfl (Kp ?_)
  refine NewC_blk (fun c3 w1 e_c3 h3 f1 s1 => ?_)
  refine LdC_blk (h3) rfl ?_
  refine call_sound T_ok fun_remset_Sets_forget rfl (by kernel_rfl) rfl (Kp ?_)
  refine NewC_blk (fun c5 w2 e_c5 h5 f2 s2 => ?_)
  have F2 := f1.no f2
  refine CallC_intro (rregion_spec r w2 (h.keep F2 id)) (fun v w3 ⟨hv, f3⟩ => ?_)
  rw [decide_eq_false hr] at hv
  subst hv
  exact ⟨rfl, F2.no f3⟩
end Go.Proofs.YtdhbpklmkibmbaaGreat
