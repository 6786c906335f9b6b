/- The law's awake (15): a small heap, one allocation in two steps. -/
import Derived.Test.YthmkimnpdnmahaaAlloc2
import Derived.Test.YthmkimnpdnmahaaHeap2
import Derived.Test.YthmkimnpdnmahaaVcR
namespace Go.Proofs.Ythmkimnpdnmahaa
open Go.Vc

def cfg15 : Cfg := ⟨6, 4, 3, 1, 4, 0, 0, 2, 0, 0, 0, 0, 0, 0⟩
theorem valid15 : Valid cfg15 := ⟨by decide, by decide, by decide, by decide, by decide, fun k x hx => by
  have : k < 12 := by have := (List.getElem?_eq_some_iff.1 hx).1; exact this
  have h : k = 0 ∨ k = 1 ∨ k = 2 ∨ k = 3 ∨ k = 4 ∨ k = 5 ∨ k = 6 ∨ k = 7 ∨ k = 8 ∨ k = 9 ∨ k = 10 ∨ k = 11 := by omega
  rcases h with rfl | rfl | rfl | rfl | rfl | rfl | rfl | rfl | rfl | rfl | rfl | rfl <;> (injection hx with hx; subst hx; decide)⟩
theorem small15_spec (w : World) : CallC Pr f_gleanerlaw15_small [] w (fun v w' => v = cfgV cfg15 ∧ Fr No w w') := by
  refine call_sound T_ok fun_gleanerlaw15_small rfl (by kernel_rfl) rfl (Kp ?_)
  refine NewC_blk (fun b w1 hb h1 f1 _ => ?_)
  refine StN_blk h1 rfl (Nat.le_of_ble_eq_true rfl) (fun w2 h2 f2 _ => ?_)
  have h2 : Blk w2 b t_api_Config (cfgL cfg15) := h2
  refine LdN_blk (vs := cfgL cfg15) h2 rfl rfl ?_
  exact ⟨rfl, f1.new f2 (fun _ _ e => e) (fun _ e => by omega)⟩
/-- A step that allocates: what alloc comes to. -/
theorem Step_alloc {hb sh mb : Nat} {t : Int} {m : Mu} (w : World) (R : World → List Value → World → Prop) (hm : Blk w mb t_mutate_Mutator (mutL hb sh t m)) (hph : m.phase ≠ 0) (hk : m.k = 1)
    (hA : ∀ w1, Fr No w w1 → CallC Pr f_mutate_Mutator_alloc [ptr mb] w1 (fun r w2 => ∃ (an : Int × Int × Int) (d b ww : Bool), r = .agg (resL (ansL an.1 an.2.1 an.2.2 0 false) d b ww (.slice none 0 0)).toArray ∧ R w1 (resL (ansL an.1 an.2.1 an.2.2 0 false) d b ww (.slice none 0 0)) w2 ∧ ∀ q, q = w.heap.size → Blk w1 q t_mutate_Result res0 → Blk w2 q t_mutate_Result res0)) :
    CallC Pr f_mutate_Mutator_Step [ptr mb] w (fun r w' => ∃ w1 w2 rs q, r = .agg rs.toArray ∧ Fr No w w1 ∧ R w1 rs w2 ∧ q = w.heap.size ∧ q < w1.heap.size ∧ Fr (· = q) w2 w') := by
  refine call_sound T_ok fun_mutate_Mutator_Step rfl (by kernel_rfl) rfl (Kp ?_)
  refine NewC_blk (fun q w1 hq h1 f1 s1 => ?_)
  have h1 : Blk w1 q t_mutate_Result res0 := h1
  have hm1 := hm.keep f1 id
  refine LdC_blk hm1 rfl ?_
  refine Br_df hph ?_
  refine LdC_blk hm1 rfl ?_
  refine Br_dt hk ?_
  refine CallC_intro (hA w1 f1) (fun v w2 ⟨an, d, b, ww, hv, hR, hK⟩ => ?_)
  subst hv
  have h2 := hK q hq h1
  refine StN_blk h2 rfl (Nat.le_of_ble_eq_true rfl) (fun w3 h3 f3 _ => ?_)
  have h3 : Blk w3 q t_mutate_Result (resL (ansL an.1 an.2.1 an.2.2 0 false) d b ww (.slice none 0 0)) := h3
  refine LdN_blk (vs := resL (ansL an.1 an.2.1 an.2.2 0 false) d b ww (.slice none 0 0)) h3 rfl rfl ?_
  exact ⟨w1, w2, _, q, rfl, f1, hR, hq, by omega, f3⟩
theorem placed15 {ok : Bool} {pos : Int} {s' : HS} (h : Placed cfg15 0 3 (0, 0) (newS cfg15) ok pos s') : ok = true ∧ pos = 0 ∧ s'.refs = (newS cfg15).refs := by
  cases h with
  | take h => exact absurd h (by decide)
  | young _ h => exact absurd h (by decide)
  | full _ _ h => exact absurd rfl (h 0 (0, 0, 0) rfl)
  | claim k y _ _ hk y0 hf =>
    cases k with
    | zero => exact ⟨rfl, rfl, rfl⟩
    | succ k => exact absurd rfl (hf 0 (0, 0, 0) (by omega) rfl)
theorem awake15_spec (w : World) : CallC Pr f_gleanerlaw15_awake [] w (fun v w' => v = .bool true ∧ Fr No w w') := by
  refine call_sound T_ok fun_gleanerlaw15_awake rfl (by kernel_rfl) rfl (Kp ?_)
  refine CallC_intro (small15_spec w) (fun v w1 ⟨hv, f1⟩ => ?_)
  subst hv
  refine CallC_intro (heap_New_spec cfg15 w1 valid15) (fun v w2 ⟨hb, p, z, hv, H2, zl, z0, f2⟩ => ?_)
  subst hv
  have bl : p.bs.length = 1 := by have := H2.bsl; have : (p.bs.length : Int) = 1 := this; omega
  refine MkC T_ok (z := .slice none 0 0) rfl rfl rfl rfl (n := 1) (by decide) (by decide) (by decide) (fun orr w3 ho h3 f3 s3 => ?_)
  refine NewC_blk (fun sh w4 hs h4 f4 s4 => ?_)
  have h4 : Blk w4 sh t_mutate_Shared [.bool false, .slice (some ⟨orr, 0, none⟩) 1 1] := h4
  have f24 := f3.no f4
  have H4 := H2.mv (Mv.of (S := fun _ => False) f24) (fun _ _ => id)
  refine CallC_intro (mutate_New_spec 0 w4 H4 (by rw [bl]; exact h4) (by rw [bl]; decide)) (fun v w5 ⟨mb, hv, hm5, f5, hmb, s5⟩ => ?_)
  subst hv
  have f25 := f24.no f5
  obtain ⟨z5, zm', m25⟩ : ∃ z' : Nat → Nat, z' mb = 500 ∧ Mv z z' (fun _ => False) w2 w5 := ⟨zput z mb 500, zput_self, (Mv.of f25).put (by have := f24.size; omega)⟩
  have H5 := H2.mv m25 (fun _ _ => id)
  have zm : True ∧ z5 mb = 500 := ⟨trivial, zm'⟩
  refine CallC_intro (Idle_spec w5 hm5) (fun v w6 ⟨hv, f6⟩ => ?_)
  subst hv
  refine CallC_intro (Start_spec 1 1 1 0 0 w6 (hm5.keep f6 id) rfl) (fun v w7 ⟨hv, hm7, f7⟩ => ?_)
  subst hv
  have m67 : Mv z5 z5 (· = 500) w6 w7 := Mv.ofZ f7 (fun k _ e => by rw [e]; exact zm.2)
  have H6 := H5.mv (Mv.of (S := fun _ => False) f6) (fun _ _ => id)
  have H7 := H6.mv m67 (fun i hi e => by omega)
  obtain ⟨z7, zq7, m77⟩ : ∃ z' : Nat → Nat, z' w7.heap.size = 9999 ∧ Mv z5 z' (fun _ => False) w7 w7 := ⟨zput z5 w7.heap.size 9999, zput_self, (Mv.refl _ _ _).put (Nat.le_refl _)⟩
  have H7 := H7.mv m77 (fun _ _ => id)
  have zm7 : z7 mb = 500 := (m77.zs mb hm7.lt).trans zm.2
  have hx : (newS cfg15).bufs[(0 : Int).toNat]? = some ((0 : Int), (0 : Int)) := rfl
  have hl : (newS cfg15).refs[(0 : Int).toNat]? = some ([] : List Int) := rfl
  refine CallC_intro (Step_alloc w7 (fun wa rs wb => ∃ ok pos s' z', Placed cfg15 0 3 (0, 0) (newS cfg15) ok pos s' ∧ HeapAt wb z' cfg15 hb p s' ∧ Mv z7 z' (fun i => i = 3 ∨ i = 10 ∨ i = 500) wa wb ∧ rs = resL ans0 false true (!ok) (.slice none 0 0) ∧
      Blk wb mb t_mutate_Mutator (mutL hb sh 0 ⟨0, if ok then 5 else 6, 1, 1, 1, 0, 0, if ok then pos else 0⟩)) hm7 (by decide) rfl (fun wa fa => ?_)) (fun v w8 ⟨wa, wb, rs, q, hv, fa, hR, hq, hqa, f8⟩ => ?_)
  · have Ha := H7.mv (Mv.of (S := fun _ => False) fa) (fun _ _ => id)
    refine CallC_intro (alloc_fresh wa Ha (hm7.keep fa id) (by decide) hx zm7 hl (by decide) (by decide) (by decide) (by decide) (fun e => by cases e)) (fun v wb ⟨ok, pos, s', z', hP, HH, MM, hr, hB⟩ => ?_)
    exact ⟨(0, 0, 0), false, true, !ok, hr, ⟨ok, pos, s', z', hP, HH, MM, rfl, hB⟩, fun q hq hb => hb.keep MM.fr (by rw [hq, zq7]; decide)⟩
  obtain ⟨ok, pos, s', z8, hP, H8, M8, rfl, hm8⟩ := hR
  obtain ⟨rfl, rfl, hrefs⟩ := placed15 hP
  subst hv
  have hm8 : Blk wb mb t_mutate_Mutator (mutL hb sh 0 ⟨0, 5, 1, 1, 1, 0, 0, 0⟩) := hm8
  have zq8 : z8 q = 9999 := (M8.zs q hqa).trans (by rw [hq]; exact zq7)
  have m8 : Mv z8 z8 (· = 9999) wb w8 := Mv.ofZ f8 (fun k _ e => by rw [e]; exact zq8)
  have zm8 : z8 mb = 500 := (M8.zs mb (Nat.lt_of_lt_of_le hm7.lt fa.size)).trans zm7
  have H8 := H8.mv m8 (fun i hi e => by omega)
  have hm8 := hm8.keep m8.fr (by rw [zm8]; decide)
  refine NewC_blk (fun x1 w9 hx1 hX1 f9 s9 => ?_)
  obtain ⟨z9, zx9, m9⟩ : ∃ z' : Nat → Nat, z' x1 = 9999 ∧ Mv z8 z' (fun _ => False) w8 w9 := ⟨zput z8 x1 9999, zput_self, (Mv.of f9).put (by omega)⟩
  have H9 := H8.mv m9 (fun _ _ => id)
  have hm9 := hm8.mv zm8 m9 id
  refine StN_blk hX1 rfl (Nat.le_of_ble_eq_true rfl) (fun w10 hX10 f10 s10 => ?_)
  have hX10 : Blk w10 x1 t_mutate_Result (resL ans0 false true false (.slice none 0 0)) := hX10
  have m10 : Mv z9 z9 (· = 9999) w9 w10 := Mv.ofZ f10 (fun k _ e => by rw [e]; exact zx9)
  have H10 := H9.mv m10 (fun i hi e => by omega)
  have hm10 := hm9.1.keep m10.fr (by rw [hm9.2]; decide)
  obtain ⟨z11, zq11, m11⟩ : ∃ z' : Nat → Nat, z' w10.heap.size = 9999 ∧ Mv z9 z' (fun _ => False) w10 w10 := ⟨zput z9 w10.heap.size 9999, zput_self, (Mv.refl _ _ _).put (Nat.le_refl _)⟩
  have H11 := H10.mv m11 (fun _ _ => id)
  have zm11 : z11 mb = 500 := (m11.zs mb hm10.lt).trans hm9.2
  have zx11 : z11 x1 = 9999 := (m11.zs x1 hX10.lt).trans zx9
  have hl11 : s'.refs[(0 : Int).toNat]? = some ([] : List Int) := by rw [hrefs]; rfl
  refine CallC_intro (Step_alloc w10 (fun wa rs wb => ∃ e l' z', ((e = 0 ∧ (([] : List Int).length : Int) < cfg15.c4 ∧ l' = [] ++ [(0 : Int) + 1]) ∨ (e = 15 ∧ (([] : List Int).length : Int) = cfg15.c4 ∧ l' = [])) ∧
      HeapAt wb z' cfg15 hb p { s' with acc := IntKind.i64.wrap (s'.acc + 1), ws := made s'.ws 0 (1 + 1 + 1) 1, refs := s'.refs.set (0 : Int).toNat l' } ∧ Mv z11 z' (fun i => i = 2 ∨ i = 100 + (0 : Int).toNat ∨ i = 500 + (0 : Int).toNat) wa wb ∧
      rs = resL (ansL 0 0 e 0 false) true false false (.slice none 0 0) ∧ Blk wb mb t_mutate_Mutator (mutL hb sh 0 ⟨1, 0, 1, 1, 1, 0, 0, 0⟩)) hm10 (show (5 : Int) ≠ 0 by decide) rfl (fun wa fa => ?_)) (fun v w12 ⟨wa2, wb2, rs2, q2, hv, fa2, hR2, hq2, hqa2, f12⟩ => ?_)
  · have Ha := H11.mv (Mv.of (S := fun _ => False) fa) (fun _ _ => id)
    refine CallC_intro (alloc_placed wa Ha (hm10.keep fa id) (Int.le_refl 0) (by rw [bl]; decide) zm11 hl11 rfl (by decide) (by decide) (by decide) (by decide) (by decide)) (fun v wb ⟨e, l', z', hE, HH, MM, hr, hB⟩ => ?_)
    exact ⟨(0, 0, e), true, false, false, hr, ⟨e, l', z', hE, HH, MM, rfl, hB⟩, fun q hq hb => hb.keep MM.fr (by rw [hq, zq11]; decide)⟩
  obtain ⟨e, l', z12, hE, H12, M12, rfl, hm12⟩ := hR2
  obtain ⟨rfl, rfl⟩ : e = 0 ∧ l' = [1] := by
    rcases hE with ⟨a, _, b⟩ | ⟨_, b, _⟩
    · exact ⟨a, b⟩
    · exact absurd b (by decide)
  subst hv
  have zq12 : z12 q2 = 9999 := (M12.zs q2 hqa2).trans (by rw [hq2]; exact zq11)
  have hX12 : Blk wb2 x1 t_mutate_Result (resL ans0 false true false (.slice none 0 0)) ∧ z12 x1 = 9999 := (hX10.keep fa2 id).mv zx11 M12 (by decide)
  have zm12 : z12 mb = 500 := (M12.zs mb (Nat.lt_of_lt_of_le hm10.lt fa2.size)).trans zm11
  have m12 : Mv z12 z12 (· = 9999) wb2 w12 := Mv.ofZ f12 (fun k _ e => by rw [e]; exact zq12)
  have nx : x1 ≠ q2 := by have := hX10.lt; omega
  have H12 := H12.mv m12 (fun i hi e => by omega)
  have hm12 := hm12.keep m12.fr (by rw [zm12]; decide)
  have hX12 := hX12.1.keep f12 nx
  refine NewC_blk (fun x2 w13 hx2 hY f13 s13 => ?_)
  have n2 : x2 ≠ x1 := by have := hX12.lt; omega
  have n3 : x2 ≠ mb := by have := hm12.lt; omega
  refine StN_blk hY rfl (Nat.le_of_ble_eq_true rfl) (fun w14 hY14 f14 s14 => ?_)
  have hY14 : Blk w14 x2 t_mutate_Result (resL (ansL 0 0 0 0 false) true false false (.slice none 0 0)) := hY14
  have hX14 := (hX12.keep f13 id).keep f14 n2.symm
  have hm14 := (hm12.keep f13 id).keep f14 n3.symm
  obtain ⟨z13, zx13, m13⟩ : ∃ z' : Nat → Nat, z' x2 = 9999 ∧ Mv z12 z' (fun _ => False) w12 w13 := ⟨zput z12 x2 9999, zput_self, (Mv.of f13).put (by omega)⟩
  have m14 : Mv z13 z13 (· = 9999) w13 w14 := Mv.ofZ f14 (fun k _ e => by rw [e]; exact zx13)
  have H14 := (H12.mv m13 (fun _ _ => id)).mv m14 (fun i hi e => by omega)
  have f02 : Fr No w w2 := f1.no f2
  have zw : ∀ k, k < w.heap.size → z7 k = 0 := fun k hk => (m77.zs k (Nat.lt_of_lt_of_le hk (Nat.le_trans f02.size (Nat.le_trans f25.size (Nat.le_trans f6.size f7.size))))).trans ((m25.zs k (Nat.lt_of_lt_of_le hk f02.size)).trans (z0 k (Nat.lt_of_lt_of_le hk f1.size)))
  have l05 := (f02.no f24).size
  have F7 : Fr No w w7 := ((f02.no f25).no f6).new f7 (fun _ _ e => e) (fun k e => by have e : k = mb := e; omega)
  have FA := F7.no fa
  have FB : Fr No w wb := FA.trans M8.fr (fun _ _ e => e) (fun k hk e => by have e : z7 k = 3 ∨ z7 k = 10 ∨ z7 k = 500 := e; rw [zw k hk] at e; omega)
  have lF7 := F7.size
  have F8 : Fr No w w8 := FB.new f8 (fun _ _ e => e) (fun k e => by have e : k = q := e; omega)
  have lF8 := F8.size
  have F10 : Fr No w w10 := (F8.no f9).new f10 (fun _ _ e => e) (fun k e => by have e : k = x1 := e; omega)
  have lF10 := F10.size
  have zw11 : ∀ k, k < w.heap.size → z11 k = 0 := fun k hk => (m11.zs k (Nat.lt_of_lt_of_le hk F10.size)).trans ((m9.zs k (Nat.lt_of_lt_of_le hk F8.size)).trans ((M8.zs k (Nat.lt_of_lt_of_le hk FA.size)).trans (zw k hk)))
  have FB2 : Fr No w wb2 := (F10.no fa2).trans M12.fr (fun _ _ e => e) (fun k hk e => by have e : z11 k = 2 ∨ z11 k = 100 ∨ z11 k = 500 := e; rw [zw11 k hk] at e; omega)
  have F12 : Fr No w w12 := FB2.new f12 (fun _ _ e => e) (fun k e => by have e : k = q2 := e; omega)
  have lF12 := F12.size
  have F14 : Fr No w w14 := (F12.no f13).new f14 (fun _ _ e => e) (fun k e => by have e : k = x2 := e; omega)
  refine LdC_blk hX14 rfl ?_
  refine LdC_blk hX14 rfl ?_
  refine LdC_blk hY14 rfl ?_
  refine LdC_blk hY14 rfl ?_
  refine LdN_blk (vs := ans0) hY14 rfl rfl ?_
  refine EqS (cs := ans0) (ds := ans0) (by kernel_rfl) ?_
  refine CallC_intro (Idle_spec w14 hm14) (fun v w15 ⟨hv, f15⟩ => ?_)
  subst hv
  have H15 := H14.mv (Mv.of (S := fun _ => False) f15) (fun _ _ => id)
  obtain ⟨g, cap, cur, b, hvr, hg, hc, hbb⟩ := H15.root (t := 0) (Int.le_refl 0) (by rw [bl]; decide)
  obtain ⟨ra, rc, hr, hT⟩ := H15.cells
  rw [hvr] at hr
  injection hr with e1 e2 e3
  subst e1 e3
  obtain ⟨sv, hS, _, _⟩ := H15.stacks 0 b [1] hbb (by show (s'.refs.set 0 [1])[0]? = _; rw [hrefs]; rfl)
  refine LdC_blk hT rfl ?_
  refine Sd_intro (by rw [bl]; decide) ?_
  refine LdC_idx hg hc ?_
  refine CallC_intro (roots_Len_spec w15 hS) (fun v w16 ⟨hv, f16⟩ => ?_)
  subst hv
  exact ⟨rfl, (F14.no f15).no f16⟩
end Go.Proofs.Ythmkimnpdnmahaa
