/- Layer 11 (remset): two tables of sets, apart. RemsetApart. -/
import Derived.Test.YtfokdnmidfmddaaDoorRem16
namespace Go.Proofs.YtfokdnmidfmddaaDoor
open Go.Vc

theorem rowAt11 {w : World} {k : IntKind} {a : Option Addr} {len : Nat} {zs : List Int} (h : RowArg w k a len zs) {i : Nat} (hi : i < len) : ∃ x z, a = some x ∧ zs[i]? = some z ∧ w.cell? (x.add i) = some (.int k z) := by
  rcases h with ⟨_, h, _⟩ | ⟨x, ha, hl, hc⟩
  · omega
  · have hlt : i < zs.length := by omega
    exact ⟨x, _, ha, List.getElem?_eq_getElem hlt, hc i _ (List.getElem?_eq_getElem hlt)⟩
theorem RS.trim {w : World} {b : Nat} {B : Nat → Prop} {n per : Int} {A : Abs} (h : RS w b B n per A) : RS w b (fun x => B x ∧ x < w.heap.size) n per A := by
  obtain ⟨m1, m2, m3, sp, fi, co, hG, g, hB, hBs⟩ := h
  exact ⟨m1, m2, m3, sp, fi, co, hG, g, fun x hx => ⟨hB x hx, hG.rest_lt x hx⟩, fun e he => ⟨hBs e he, spV_lt (hG.rows e he)⟩⟩
theorem RS.sub {w : World} {b : Nat} {B B' : Nat → Prop} {n per : Int} {A : Abs} (h : RS w b B n per A) (hs : ∀ x, B x → B' x) : RS w b B' n per A := by
  obtain ⟨m1, m2, m3, sp, fi, co, hG, g, hB, hBs⟩ := h
  exact ⟨m1, m2, m3, sp, fi, co, hG, g, fun x hx => hs x (hB x hx), fun e he => hs _ (hBs e he)⟩
/-- Two tables of sets, made since. -/
def Two (w0 w : World) (b1 b2 : Nat) (n per : Int) (A1 A2 : Abs) : Prop :=
  ∃ B1 B2 : Nat → Prop, RS w b1 B1 n per A1 ∧ RS w b2 B2 n per A2 ∧ (∀ x, B1 x → ¬ B2 x) ∧ (∀ x, B1 x ∨ B2 x → w0.heap.size ≤ x ∧ x < w.heap.size) ∧ Fr No w0 w
theorem Two.swap {w0 w : World} {b1 b2 : Nat} {n per : Int} {A1 A2 : Abs} (h : Two w0 w b1 b2 n per A1 A2) : Two w0 w b2 b1 n per A2 A1 := by
  obtain ⟨B1, B2, h1, h2, h3, h4, h5⟩ := h
  exact ⟨B2, B1, h2, h1, fun x a b => h3 x b a, fun x e => h4 x e.symm, h5⟩
theorem Two.fr {w0 w : World} {b1 b2 : Nat} {n per : Int} {A1 A2 : Abs} (h : Two w0 w b1 b2 n per A1 A2) : Fr No w0 w := by
  obtain ⟨B1, B2, h1, h2, h3, h4, h5⟩ := h; exact h5
theorem Two.no {w0 w w' : World} {b1 b2 : Nat} {n per : Int} {A1 A2 : Abs} (h : Two w0 w b1 b2 n per A1 A2) (f : Fr No w w') : Two w0 w' b1 b2 n per A1 A2 := by
  obtain ⟨B1, B2, h1, h2, h3, h4, h5⟩ := h
  exact ⟨B1, B2, h1.keep f (fun _ _ => id), h2.keep f (fun _ _ => id), h3, fun x e => ⟨(h4 x e).1, Nat.lt_of_lt_of_le (h4 x e).2 f.size⟩, h5.no f⟩
/-- The first one was changed. -/
theorem Two.one {w0 w w' : World} {b1 b2 : Nat} {n per : Int} {A2 A1' : Abs} {B1 B2 B' : Nat → Prop} (h2 : RS w b2 B2 n per A2) (h3 : ∀ x, B1 x → ¬ B2 x) (h4 : ∀ x, B1 x ∨ B2 x → w0.heap.size ≤ x ∧ x < w.heap.size) (h5 : Fr No w0 w)
    (h : RS w' b1 B' n per A1') (hB : ∀ x, B' x → B1 x ∨ w.heap.size ≤ x) (f : Fr B1 w w') : Two w0 w' b1 b2 n per A1' A2 := by
  have hs := f.size
  have h0 := h5.size
  refine ⟨_, B2, h.trim, h2.keep f (fun x a b => h3 x b a), fun x hx hb => ?_, fun x e => ?_, h5.new f (fun _ _ e => e) (fun x e => (h4 x (.inl e)).1)⟩
  · rcases hB x hx.1 with e | e
    · exact h3 x e hb
    · have := (h4 x (.inr hb)).2; omega
  · rcases e with e | e
    · rcases hB x e.1 with e1 | e1
      · exact ⟨(h4 x (.inl e1)).1, e.2⟩
      · exact ⟨by omega, e.2⟩
    · exact ⟨(h4 x (.inr e)).1, Nat.lt_of_lt_of_le (h4 x (.inr e)).2 hs⟩
theorem Two.add {w0 w : World} {b1 b2 : Nat} {n per : Int} {A1 A2 : Abs} (C : Cfg n per) (h : Two w0 w b1 b2 n per A1 A2) (hm c : Int) :
    CallC Pr f_remset_Sets_Add [.pointer (some ⟨b1, 0, none⟩), .int .i64 hm, .int .i64 c] w (fun v w' => v = .tuple #[.bool (addA n per A1 hm c).1, .int .i64 (addA n per A1 hm c).2.1] ∧ Two w0 w' b1 b2 n per (addA n per A1 hm c).2.2 A2) := by
  obtain ⟨B1, B2, h1, h2, h3, h4, h5⟩ := h
  exact CallC_intro (Add_RS C hm c h1) (fun v w' ⟨hv, ⟨B', hR, hB⟩, f⟩ => ⟨hv, Two.one h2 h3 h4 h5 hR hB f⟩)
theorem coarsenA_ne {n per hm : Int} {A : Abs} {k : Int × Int} (h : k.1 ≠ hm) : coarsenA n per A hm k = A k := by
  unfold coarsenA
  cases finesA n A hm with
  | nil => rfl
  | cons x L =>
    dsimp only
    split
    · rfl
    · exact updA_ne fun e => h (by rw [e])
theorem addA_ne {n per hm c : Int} {A : Abs} {k : Int × Int} (h : k.1 ≠ hm) : (addA n per A hm c).2.2 k = A k := by
  have hk : k ≠ (hm, c / per) := fun e => h (by rw [e])
  unfold addA
  split
  · split
    · rfl
    · split
      · rfl
      · exact updA_ne hk
      · split
        · rfl
        · split
          · exact updA_ne hk
          · show coarsenA n per _ hm k = _
            rw [coarsenA_ne h]; exact updA_ne hk
  · rfl
theorem hasA_of {n per hm : Int} {A A' : Abs} (h : ∀ s, A (hm, s) = A' (hm, s)) : hasA n per A hm = hasA n per A' hm := by
  funext c
  unfold hasA
  rw [h]
theorem cardsA_of {n per hm : Int} {A A' : Abs} (h : ∀ s, A (hm, s) = A' (hm, s)) : cardsA n per A hm = cardsA n per A' hm := by
  unfold cardsA
  rw [hasA_of h]
theorem cfg8 : Cfg 8 8 := ⟨by decide, by decide, by decide, by decide⟩
theorem smallRS (w : World) : CallC Pr f_remset_New [.agg #[.int .i64 512, .int .i64 64, .int .i64 8, .int .i64 8, .int .i64 64, .int .i64 448]] w
      (fun v w' => ∃ b B, v = .tuple #[.pointer (some ⟨b, 0, none⟩), .int .i64 0] ∧ RS w' b B 8 8 (fun _ => .sp []) ∧ Fr No w w' ∧ ∀ x, B x → w.heap.size ≤ x ∧ x < w'.heap.size) :=
  CallC_intro (smallSets_spec w) (fun v w' ⟨b, m1, m2, m3, hv, hS, f, k0, k1, k2, k3⟩ => ⟨b, _, hv, (new_RS hS).trim, f, fun x hx => ⟨by
    have := hx.1
    simp only [List.mem_cons, List.not_mem_nil, or_false] at this
    omega, hx.2⟩⟩)
set_option maxHeartbeats 1000000 in
theorem RemsetApart_spec (ad : Option Addr) (len cap : Nat) (zs : List Int) (ad' : Option Addr) (len' cap' : Nat) (zs' : List Int) (w : World) (hT : Tab64 w) (hr : RowArg w .u8 ad len zs) (hz : ∀ z ∈ zs, 0 ≤ z ∧ z ≤ 255) (hl : len ≤ 9223372036854775807)
    (hr' : RowArg w .u8 ad' len' zs') (hz' : ∀ z ∈ zs', 0 ≤ z ∧ z ≤ 255) (hl' : len' ≤ 9223372036854775807) :
    CallC Pr f_gleanerlaw11_RemsetApart [.slice ad len cap, .slice ad' len' cap'] w (fun v w' => v = .bool true ∧ Fr No w w') := by
  have word : ∀ z : Int, 0 ≤ z → z ≤ 255 → IntKind.i64.wrap z = z := fun z h0 h1 => wrap_i64 (by omega) (by omega)
  refine call_sound T_ok fun_gleanerlaw11_RemsetApart rfl (by kernel_rfl) rfl (Kp ?_)
  refine CallC_intro (awake11_spec w hT) (fun v w1 ⟨hv, f1⟩ => ?_)
  subst hv
  refine CallC_intro (small11_spec w1) (fun v w2 ⟨hv, f2⟩ => ?_)
  subst hv
  refine CallC_intro (smallRS w2) (fun v w3 ⟨b1, B1, hv, hR1, f3, hB1⟩ => ?_)
  subst hv
  refine CallC_intro (small11_spec w3) (fun v w4 ⟨hv, f4⟩ => ?_)
  subst hv
  refine CallC_intro (smallRS w4) (fun v w5 ⟨b2, B2, hv, hR2, f5, hB2⟩ => ?_)
  subst hv
  have z1 := f1.size
  have z2 := f2.size
  have z3 := f3.size
  have z4 := f4.size
  have z5 := f5.size
  have F5 : Fr No w w5 := (((f1.no f2).no f3).no f4).no f5
  have H5 : Two w w5 b1 b2 8 8 (fun _ => .sp []) (fun _ => .sp []) := ⟨B1, B2, hR1.keep (f4.no f5) (fun _ _ => id), hR2, fun x a b => by have := hB1 x a; have := hB2 x b; omega, fun x e => by
    rcases e with e | e
    · have := hB1 x e; omega
    · have := hB2 x e; omega, F5⟩
  obtain ⟨N, hN⟩ : ∃ N : Int, N = 8 := ⟨_, rfl⟩
  have C : Cfg N N := by rw [hN]; exact cfg8
  rw [← hN] at H5
  refine LoopC_intro (α := Int) (fun i => [(0, .slice ad len cap), (1, .slice ad' len' cap'), (5, .pointer (some ⟨b1, 0, none⟩)), (7, .pointer (some ⟨b2, 0, none⟩)), (9, .int .i64 i)])
    (fun m i w6 => (∃ A, Two w w6 b1 b2 N N A A ∧ ∀ k : Int × Int, k.1 ≠ 0 → A k = .sp []) ∧ 0 ≤ i ∧ i ≤ len ∧ m = (len - i).toNat)
    (len - 0 : Int).toNat 0 ⟨rfl, rfl, rfl, rfl, rfl, trivial⟩ ⟨⟨_, H5, fun _ _ => rfl⟩, Int.le_refl _, (show (0 : Int) ≤ len by omega), rfl⟩ (fun m i w6 hJ => Kp ?_)
  obtain ⟨⟨A, H6, hA⟩, i0, i1, hm⟩ := hJ
  have i0 : 0 ≤ i := i0
  have i1 : i ≤ len := i1
  refine Br_dec (fun g => ?_) (fun g => ?_)
  · have g : i < (len : Int) := g
    obtain ⟨x, z, rfl, hzi, hcell⟩ := rowAt11 (hr.keep H6.fr) (show i.toNat < len by omega)
    have hzb := hz z (List.mem_of_getElem? hzi)
    refine Sd_intro ((show 0 ≤ i ∧ i < (len : Int) by omega)) ?_
    refine LdC_intro (v := .int .u8 z) (by rw [Nat.mul_one]; exact hcell) ?_
    refine Sd_intro ((by decide)) ?_
    refine CallC_intro (H6.add C 0 _) (fun v w7 ⟨hv, H7⟩ => ?_)
    subst hv
    obtain ⟨x', z', ex, hzi', hcell'⟩ := rowAt11 (hr.keep H7.fr) (show i.toNat < len by omega)
    injection ex with ex
    subst ex
    rw [hzi] at hzi'
    injection hzi' with hzi'
    subst hzi'
    refine Sd_intro ((show 0 ≤ i ∧ i < (len : Int) by omega)) ?_
    refine LdC_intro (v := .int .u8 z) (by rw [Nat.mul_one]; exact hcell') ?_
    refine Sd_intro ((by decide)) ?_
    refine CallC_intro (H7.swap.add C 0 _) (fun v w8 ⟨hv, H8⟩ => ?_)
    subst hv
    refine ⟨(len - (i + 1)).toNat, _, by omega, ?_, i + 1, rfl, ⟨_, H8.swap, fun k hk => by rw [addA_ne hk]; exact hA k hk⟩, (show 0 ≤ i + 1 by omega), (show i + 1 ≤ (len : Int) by omega), rfl⟩
    exact ⟨rfl, rfl, rfl, rfl, look_int rfl (wrap_i64 (by omega) (by omega)), trivial⟩
  refine LoopC_intro (α := Int) (fun i => [(1, .slice ad' len' cap'), (5, .pointer (some ⟨b1, 0, none⟩)), (7, .pointer (some ⟨b2, 0, none⟩)), (10, .int .i64 i)])
    (fun m i w7 => (∃ A', Two w w7 b1 b2 N N A A' ∧ ∀ k : Int × Int, k.1 = 0 → A' k = A k) ∧ 0 ≤ i ∧ i ≤ len' ∧ m = (len' - i).toNat)
    (len' - 0 : Int).toNat 0 ⟨rfl, rfl, rfl, rfl, trivial⟩ ⟨⟨_, H6, fun _ _ => rfl⟩, Int.le_refl _, (show (0 : Int) ≤ len' by omega), rfl⟩ (fun m i w7 hJ => Kp ?_)
  clear hm i0 i1 g H6
  obtain ⟨⟨A', H7, hA'⟩, i0, i1, hm⟩ := hJ
  have i0 : 0 ≤ i := i0
  have i1 : i ≤ len' := i1
  refine Br_dec (fun g => ?_) (fun g => ?_)
  · have g : i < (len' : Int) := g
    have H7d := H7.no (Fr.drew w7)
    obtain ⟨x, z, rfl, hzi, hcell⟩ := rowAt11 (hr'.keep H7d.fr) (show i.toNat < len' by omega)
    have hzb := hz' z (List.mem_of_getElem? hzi)
    have ez := word z hzb.1 hzb.2
    have m0 := Int.emod_nonneg z (show (7 : Int) ≠ 0 by decide)
    have m1 := Int.emod_lt_of_pos z (show (0 : Int) < 7 by decide)
    have e7 : (IntKind.i64.wrap z).tmod 7 = z % 7 := by rw [ez, tmod_eq hzb.1]
    have e8 : IntKind.i64.wrap (1 + (IntKind.i64.wrap z).tmod 7) = 1 + z % 7 := by rw [e7]; exact wrap_i64 (by omega) (by omega)
    refine AnyC_plan T_ok mixed (planO [0,1,2,3,4,5,6,7,8,9,10,11,12,13,1014]) ((fun w' => w'.cell? (x.add i.toNat) = some (.int .u8 z))) (by kernel_rfl) (by kernel_rfl) (hcell) (Kp ?_)
    refine Sd_intro ((show 0 ≤ i ∧ i < (len' : Int) by omega)) ?_
    refine LdS_intro (v := .int .u8 z) (fun w' hw => by rw [Nat.mul_one]; exact hw) ?_
    refine Sd_intro ((by decide)) ?_
    refine Sd_intro ((show 0 ≤ i ∧ i < (len' : Int) by omega)) ?_
    refine LdS_intro (v := .int .u8 z) (fun w' hw => by rw [Nat.mul_one]; exact hw) ?_
    refine Sd_intro ((by decide)) ?_
    refine ⟨?_, trivial⟩
    refine CallC_intro (H7d.swap.add C _ _) (fun v w8 ⟨hv, H8⟩ => ?_)
    subst hv
    obtain ⟨x', z', ex, hzi', hcell'⟩ := rowAt11 (hr'.keep H8.fr) (show i.toNat < len' by omega)
    injection ex with ex
    subst ex
    rw [hzi] at hzi'
    injection hzi' with hzi'
    subst hzi'
    refine Sd_intro (hcell') ?_
    refine ⟨(len' - (i + 1)).toNat, _, by omega, ?_, i + 1, rfl, ⟨_, H8.swap, fun k hk => ?_⟩, (show 0 ≤ i + 1 by omega), (show i + 1 ≤ (len' : Int) by omega), rfl⟩
    · exact ⟨rfl, rfl, rfl, look_int rfl (wrap_i64 (by omega) (by omega)), trivial⟩
    · rw [addA_ne (by rw [e8, hk]; omega)]; exact hA' k hk
  obtain ⟨B1', B2', r1, r2, r3, r4, r5⟩ := H7
  refine CallC_intro (Clear_RS 3 r2) (fun v w8 ⟨hv, R2, f8⟩ => ?_)
  subst hv
  have R1 := r1.keep f8 (fun x a b => r3 x a b)
  have F8 : Fr No w w8 := r5.new f8 (fun _ _ e => e) (fun x e => (r4 x (.inr e)).1)
  have hcl : ∀ s, clearA N A' 3 (0, s) = A (0, s) := fun s => by
    unfold clearA
    split
    · unfold dropA
      rw [if_neg (fun e => by have e : decide ((0 : Int) = 3) = true := e; revert e; decide)]; exact hA' _ rfl
    · exact hA' _ rfl
  have hnn : N * N ≤ 1000000 := by rw [hN]; decide
  refine CallC_intro (Cards_RS C 0 R1 (hT.keep F8 id) hnn) (fun v w9 ⟨o1, f9⟩ => ?_)
  have R2' := R2.keep f9 (fun _ _ => id)
  have F9 := F8.no f9
  refine CallC_intro (Cards_RS C 0 R2' (hT.keep F9 id) hnn) (fun v2 w10 ⟨o2, f10⟩ => ?_)
  have F10 := F9.no f10
  have e1 : cardsA N N (clearA N A' 3) 0 = cardsA N N A 0 := cardsA_of hcl
  rw [e1] at o2
  have o1' := o1.keep f10 (fun _ _ => id)
  have hlen : ((cardsA N N A 0).length : Int) ≤ 4611686018427387904 := by
    unfold cardsA
    have h1 := List.length_filter_le (hasA N N A 0) (rng (N * N))
    have h2 : (rng (N * N)).length = (N * N).toNat := by unfold rng; rw [List.length_map, List.length_range]
    omega
  refine CallC_intro (Same_spec v v2 _ _ w10 o1'.ints o2.ints hlen) (fun v w11 ⟨hv, f11⟩ => ?_)
  rw [decide_eq_true rfl] at hv
  subst hv
  have F11 := F10.no f11
  have R1' := (R1.keep f9 (fun _ _ => id)).keep (f10.no f11) (fun _ _ => id)
  refine CallC_intro (Cards_RS C 1 R1' (hT.keep F11 id) hnn) (fun v w12 ⟨o3, f12⟩ => ?_)
  have e2 : cardsA N N A 1 = [] := by
    unfold cardsA
    rw [List.filter_eq_nil_iff]
    intro c _
    unfold hasA
    split
    · rw [hA _ (by decide : (1 : Int) ≠ 0)]
      show ¬ decide (c ∈ ([] : List Int)) = true
      simp
    · decide
  rw [e2] at o3
  obtain ⟨a, cp, rfl⟩ := own_slice o3
  exact ⟨rfl, F11.no f12⟩
end Go.Proofs.YtfokdnmidfmddaaDoor
