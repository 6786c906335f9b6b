/- The law's awake (14): a small heap, one object, its shape. -/
import Derived.Test.YtdhbpklmkibmbaaGreatHeapS
import Derived.Test.YtdhbpklmkibmbaaGreatMapI
import Derived.Test.YtdhbpklmkibmbaaGreatHeap5
import Derived.Test.YtdhbpklmkibmbaaGreatHeap1
import Derived.Test.YtdhbpklmkibmbaaGreatVcR
namespace Go.Proofs.YtdhbpklmkibmbaaGreat
open Go.Vc

def cfg14 : Cfg := ⟨6, 4, 3, 1, 4, 0, 0, 1, 0, 0, 0, 0, 0, 0⟩
theorem valid14 : Valid cfg14 := ⟨by decide, by decide, by decide, by decide, by decide, fun k x hx => by
  have : k < 12 := by have := (List.getElem?_eq_some_iff.1 hx).1; exact this
  have h : k = 0 ∨ k = 1 ∨ k = 2 ∨ k = 3 ∨ k = 4 ∨ k = 5 ∨ k = 6 ∨ k = 7 ∨ k = 8 ∨ k = 9 ∨ k = 10 ∨ k = 11 := by omega
  rcases h with rfl | rfl | rfl | rfl | rfl | rfl | rfl | rfl | rfl | rfl | rfl | rfl <;> (injection hx with hx; subst hx; decide)⟩
theorem small14_spec (w : World) : CallC Pr f_gleanerlaw14_small [] w (fun v w' => v = cfgV cfg14 ∧ Fr No w w') := by
  refine call_sound T_ok fun_gleanerlaw14_small rfl (by kernel_rfl) rfl (Kp ?_)
  refine NewC_blk (fun b w1 hb h1 f1 _ => ?_)
  refine StN_blk h1 rfl (Nat.le_of_ble_eq_true rfl) (fun w2 h2 f2 _ => ?_)
  have h2 : Blk w2 b t_api_Config (cfgL cfg14) := h2
  refine LdN_blk (vs := cfgL cfg14) h2 rfl rfl ?_
  exact ⟨rfl, f1.new f2 (fun _ _ e => e) (fun _ e => by omega)⟩
def rs14 : List R := [(3, 3, 0), (0, 0, 0), (0, 0, 0), (0, 0, 0)]
@[irreducible] def ws14 : List Int := (zeroed (List.replicate 256 0) 0 3).set 0 (headW 3 1 0)
theorem hdr14 : hdr ws14 0 = some ⟨1, 3, 1, 0, 0⟩ := by
  rw [hdr_some (x := headW 3 1 0) (by decide) (by unfold ws14; show (List.set _ 0 _)[0]? = _; rw [List.getElem?_set_self (by rw [zeroed_len, List.length_replicate]; decide)])]
  exact unp_obj (by decide) (by decide) (by decide) (by decide) (by decide) (by decide)
theorem ws14_get {k : Nat} (h0 : 0 < k) (h1 : k < 256) : ws14[k]? = some 0 := by
  unfold ws14
  rw [List.getElem?_set_ne (by omega), zeroed_get _ _ _ _ (by rw [List.length_replicate]; exact h1)]
  split
  · rfl
  · rw [List.getElem?_replicate, if_pos h1]
def st14 (a : Int) : HS := { newS cfg14 with acc := a, ws := ws14, rs := rs14, refs := [[1]] }
def ob14 : Ob := ⟨0, [0], [0]⟩
theorem e14r (a : Int) : (st14 a).rs = rs14 := rfl
theorem e14w (a : Int) : (st14 a).ws = ws14 := rfl
theorem row14_0 (a : Int) : rowS cfg14 (st14 a) ((0 : Nat) : Int) = some [0] := by
  unfold rowS
  rw [e14r, e14w, if_neg (show ¬ (stS rs14 ((0 : Nat) : Int) = 0 ∨ stS rs14 ((0 : Nat) : Int) = 5) by decide), if_neg (show ¬ stS rs14 ((0 : Nat) : Int) = 4 by decide)]
  have e1 : ((0 : Nat) : Int) * P cfg14 = 0 := by decide
  have e2 : endS cfg14 (st14 a) ((0 : Nat) : Int) = 3 := by
    unfold endS
    rw [e14r]
    have : (st14 a).bufs = [(0, 0)] := rfl
    rw [this]
    decide
  rw [e1, e2, starts_iff (by decide)]
  exact Tile.cons hdr14 (by decide) (by decide) (Tile.nil _)
theorem row14_k (a : Int) {k : Nat} (h : k = 1 ∨ k = 2 ∨ k = 3) : rowS cfg14 (st14 a) (k : Int) = some [] := by
  unfold rowS
  rw [e14r, if_pos (show (stS rs14 (k : Int) = 0 ∨ stS rs14 (k : Int) = 5) by rcases h with rfl | rfl | rfl <;> decide)]
theorem objsF_step {c : Cfg} {s : HS} {n : Nat} {L : List Ob} {l : List Int} (h1 : objsF c s n = some L) (h2 : rowS c s n = some l) : objsF c s (n + 1) = some (L ++ rowObs s.ws l) := by
  unfold objsF
  rw [h1, h2]
theorem rowObs14 : rowObs ws14 [0] = [ob14] := by
  unfold rowObs
  rw [List.filterMap_cons, hdr14]
  have e1 : wordsAt ws14 (0 + 1) (1 : Int).toNat = [0] := by
    show [(ws14[1]?).getD 0] = [0]
    rw [ws14_get (by decide) (by decide)]; rfl
  have e2 : wordsAt ws14 (0 + 1 + 1) ((3 : Int) - 1 - 1).toNat = [0] := by
    show [(ws14[2]?).getD 0] = [0]
    rw [ws14_get (by decide) (by decide)]; rfl
  show obOf ws14 0 ⟨1, 3, 1, 0, 0⟩ :: [] = _
  unfold obOf ob14
  show [(⟨0, wordsAt ws14 (0 + 1) (1 : Int).toNat, wordsAt ws14 (0 + 1 + 1) ((3 : Int) - 1 - 1).toNat⟩ : Ob)] = _
  rw [e1, e2]
theorem ok14 (a : Int) : okS cfg14 (st14 a) = some [ob14] := by
  have h1 := objsF_step (n := 0) (L := []) rfl (row14_0 a)
  rw [e14w, rowObs14, List.nil_append] at h1
  have h2 := objsF_step h1 (row14_k a (.inl rfl))
  rw [show rowObs (st14 a).ws [] = [] from rfl, List.append_nil] at h2
  have h3 := objsF_step h2 (row14_k a (.inr (.inl rfl)))
  rw [show rowObs (st14 a).ws [] = [] from rfl, List.append_nil] at h3
  have h4 := objsF_step h3 (row14_k a (.inr (.inr rfl)))
  rw [show rowObs (st14 a).ws [] = [] from rfl, List.append_nil] at h4
  have h4 : objsF cfg14 (st14 a) cfg14.c1.toNat = some [ob14] := h4
  unfold okS objsS
  rw [h4]
  refine if_pos ⟨fun o ho => ?_, fun l hl => ?_⟩
  · rw [List.mem_singleton] at ho; subst ho; rfl
  · have hl : l ∈ [[(1 : Int)]] := hl
    rw [List.mem_singleton] at hl; subst hl; rfl
theorem shape14 : shapeF [ob14] [[1]] = [1, 1, 1, 1, 0, 0] := by decide
theorem zown {z : Nat → Nat} {S : Nat → Prop} {w w' : World} {v v' : Value} {i : Nat} (mt : Mv z z S w w') (zv : ∀ k, v.ownBlock = some k → z k = i) (loc : v'.ownBlock = v.ownBlock ∨ ∃ k, v'.ownBlock = some k ∧ w.heap.size ≤ k) :
    ∃ z2 : Nat → Nat, Mv z z2 S w w' ∧ ∀ k, v'.ownBlock = some k → z2 k = i := by
  rcases loc with e | ⟨k, e, hk⟩
  · exact ⟨z, mt, fun k hk => zv k (by rw [← e]; exact hk)⟩
  · exact ⟨zput z k i, mt.put hk, fun k' hk' => by rw [e] at hk'; injection hk' with hk'; rw [← hk']; exact zput_self⟩
theorem awake14_spec (w : World) : CallC Pr f_gleanerlaw14_awake [] w (fun v w' => v = .bool true ∧ Fr No w w') := by
  refine call_sound T_ok fun_gleanerlaw14_awake rfl (by kernel_rfl) rfl (Kp ?_)
  refine CallC_intro (small14_spec w) (fun v w1 ⟨hv, f1⟩ => ?_)
  subst hv
  refine CallC_intro (heap_New_spec cfg14 w1 valid14) (fun v w2 ⟨hb, p, z, hv, H2, zl, z0, f2⟩ => ?_)
  subst hv
  have bl : p.bs.length = 1 := by have := H2.bsl; have : (p.bs.length : Int) = 1 := this; omega
  obtain ⟨rra, rrc, er, hT⟩ := H2.cells
  have zhb := H2.tabz
  obtain ⟨rr, hR, zrb, zrr⟩ := H2.regs
  obtain ⟨ar, hA, zab, zar⟩ := H2.arena
  refine LdC_blk (hT) rfl ?_
  refine CallC_intro (Claim_spec 3 w2 hR (by decide)) (fun v w3 ⟨rs', hC, hR3, f3⟩ => ?_)
  obtain ⟨rfl, rfl⟩ : rs' = (zeros7 4).set 0 (3, 0, 0) ∧ v = .tuple #[.int .i64 0, .int .i64 0] := by
    rcases hC with ⟨k, x, hx, h0, hj, hrs, hv⟩ | ⟨hn, _, _⟩
    · cases k with
      | zero =>
        injection hx with hx
        subst hx
        exact ⟨hrs, hv⟩
      | succ k => exact absurd rfl (hj 0 (0, 0, 0) (by omega) rfl)
    · exact absurd rfl (hn 0 (0, 0, 0) rfl)
  refine LdC_blk (hT.keep f3 (fun e => by have e : hb = rr := e; rw [e, zrr] at zhb; cases zhb)) rfl ?_
  refine CallC_intro (Bump_any 0 3 w3 hR3) (fun v w4 ⟨hv, hR4, f4⟩ => ?_)
  have eb : bumpF (P cfg14) 0 3 ((zeros7 4).set 0 (3, 0, 0)) = (0, 0, rs14) := by decide
  rw [eb] at hv hR4
  subst hv
  have m3 : Mv z z (· = 3) w2 w3 := Mv.ofZ f3 (fun k _ e => by rw [e]; exact zrr)
  have m4 : Mv z z (· = 3) w3 w4 := Mv.ofZ f4 (fun k _ e => by rw [e]; exact zrr)
  have m24 := m3.same m4
  have H4 := H2.setRegs m24 ⟨rr, hR4, zrb, zrr⟩ rfl
  obtain ⟨ar4, hA4, zab4, zar4⟩ := H4.arena
  have hT4 := hT.keep m24.fr (by rw [zhb]; decide)
  refine LdC_blk (hT4) rfl ?_
  refine CallC_intro (Make_spec 0 3 1 w4 hA4 (by decide) (by decide) (by decide) (by decide) (by decide) (by have := H4.wsl; rw [this]; decide)) (fun v w5 ⟨hv, hA5, f5⟩ => ?_)
  subst hv
  have ew : (zeroed (newS cfg14).ws (0 : Int).toNat (3 : Int).toNat).set (0 : Int).toNat (headW 3 1 0) = ws14 := by
    unfold ws14
    rfl
  have ew' : (zeroed ({ newS cfg14 with rs := rs14 } : HS).ws (0 : Int).toNat (3 : Int).toNat).set (0 : Int).toNat (headW 3 1 0) = ws14 := ew
  rw [ew'] at hA5
  have m5 : Mv z z (· = 2) w4 w5 := Mv.ofZ f5 (fun k _ e => by rcases e with e | e <;> rw [e]; exact zab4; exact zar4)
  have H5 := H4.setArena m5 ⟨ar4, hA5, zab4, zar4⟩ (by rw [← ew, List.length_set, zeroed_len])
  have hT5 := hT4.keep m5.fr (by rw [zhb]; decide)
  obtain ⟨gr, cap, cur, b, hvr, hgr, hcr, hbr⟩ := H5.root (t := 0) (by decide) (by rw [bl]; decide)
  rw [er] at hvr
  injection hvr with e1 e2 e3
  subst e1
  obtain ⟨sv, hS, zb, zsv⟩ := H5.stacks 0 b [] hbr rfl
  refine LdC_blk (hT5) rfl ?_
  refine Sd_intro ((show 0 ≤ (0 : Int) ∧ (0 : Int) < (p.bs.length : Int) by rw [bl]; decide)) ?_
  refine LdC_idx hgr hcr ?_
  refine CallC_intro (roots_Push_spec 1 w5 hS (by decide) (by decide)) (fun v w6 ⟨hv, sv', hS6, loc, f6⟩ => ?_)
  subst hv
  have mt : Mv z z (· = 100 + 0) w5 w6 := Mv.ofZ f6 (fun k _ e => by rcases e with e | e; rw [e]; exact zb; exact zsv k e)
  obtain ⟨z2, m6, zo6⟩ := zown mt zsv loc
  have H6 := H5.setStack hbr m6 ⟨sv', hS6, (m6.zs b hS.tab.lt).trans zb, zo6⟩
  obtain ⟨a6, H6⟩ : ∃ a, HeapAt w6 z2 cfg14 hb p (st14 a) := by
    have er6 : (List.replicate cfg14.c3.toNat ([] : List Int)).set 0 ([] ++ [1]) = [[1]] := rfl
    refine ⟨IntKind.i64.wrap (({ newS cfg14 with rs := rs14 } : HS).acc + 1), ?_⟩
    unfold st14
    rw [← er6]
    exact H6
  have m26 : Mv z z2 (fun i => i ≠ 0) w2 w6 := ((m24.weak (U := fun i => i ≠ 0) (fun i e => by omega)).same (m5.weak (fun i e => by omega))).same (m6.weak (fun i e => by omega))
  have zw : ∀ k, k < w.heap.size → z k = 0 := fun k hk => z0 k (Nat.lt_of_lt_of_le hk f1.size)
  have f02 : Fr No w w2 := f1.no f2
  have F6 : Fr No w w6 := f02.trans m26.fr (fun _ _ e => e) (fun k hk e => e (zw k hk))
  obtain ⟨ar6, HA6⟩ := H6.ha
  refine CallC_intro (Shape_spec w6 HA6) (fun v w7 ⟨⟨q7, HA7⟩, f7, hv⟩ => ?_)
  rw [ok14] at hv
  obtain ⟨out, hv, own7⟩ := hv
  subst hv
  have F7 : Fr No w w7 := F6.trans f7 (fun _ _ e => e) (fun k hk e => by
    have e : k = p.ab := e
    have h1 : z k = 2 := by rw [e]; exact zab4
    rw [zw k hk] at h1
    cases h1)
  have own7 : OwnU w7 w6.heap.size t_uint64 out [1, 1, 1, 1, 0, 0] := by rw [← shape14]; exact own7
  have HA7 : HA w7 z2 cfg14 hb p (st14 q7) ar6 := HA7
  refine CallC_intro (Check_spec w7 HA7) (fun v w8 ⟨_, f8, hv⟩ => ?_)
  have ec : chkV cfg14 (st14 q7) = 0 := by unfold chkV; rw [ok14]
  rw [ec] at hv
  subst hv
  have hab : p.ab < w6.heap.size := Nat.lt_of_lt_of_le hA4.lt.1 (Nat.le_trans f5.size f6.size)
  have own8 := own7.keep f8 (fun k hk e => by have e : k = p.ab := e; have := own7.lt k hk; omega)
  have F8 : Fr No w w8 := F7.trans f8 (fun _ _ e => e) (fun k hk e => by
    have e : k = p.ab := e
    have h1 : z k = 2 := by rw [e]; exact zab4
    rw [zw k hk] at h1
    cases h1)
  obtain ⟨oa, oc, eo⟩ := own_slice own8
  subst eo
  refine NewC_blk (fun y w9 e_y b9 f9 z9 => ?_)
  have b9 : Blk w9 y t_uint64 (u64i [1, 1, 1, 1, 0, 0]) := b9
  refine CallC_intro (SameU_spec _ _ _ _ w9 (own8.keep f9 (fun _ _ => id)).uc (UC.blk b9 rfl) (by decide)) (fun v w10 ⟨hv, f10⟩ => ?_)
  subst hv
  exact ⟨rfl, (F8.no f9).no f10⟩
theorem Retire_nil (w : World) : CallC Pr f_heap_Heap_Retire [.pointer none] w (fun v w' => v = .tuple #[] ∧ Fr No w w') := by
  refine call_sound T_ok fun_heap_Heap_Retire rfl (by kernel_rfl) rfl (Kp ?_)
  exact ⟨rfl, Fr.refl _ _⟩
theorem Lost_nil (v : Value) (w : World) : CallC Pr f_heap_Heap_Lost [.pointer none, v] w (fun v w' => v = .slice none 0 0 ∧ Fr No w w') := by
  refine call_sound T_ok fun_heap_Heap_Lost rfl (by kernel_rfl) rfl (Kp ?_)
  exact ⟨rfl, Fr.refl _ _⟩
theorem Free_nil (r : Int) (w : World) : CallC Pr f_heap_Heap_Free [.pointer none, .int .i64 r] w (fun v w' => v = .int .i64 1 ∧ Fr No w w') := by
  refine call_sound T_ok fun_heap_Heap_Free rfl (by kernel_rfl) rfl (Kp ?_)
  exact ⟨rfl, Fr.refl _ _⟩
end Go.Proofs.YtdhbpklmkibmbaaGreat
