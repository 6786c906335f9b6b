/- Law HeapBroken. -/
import Derived.Test.YtdhbpklmkibmbaaGreatBuildX
namespace Go.Proofs.YtdhbpklmkibmbaaGreat
open Go.Vc

/-- May a reference be this? -/
def GoodTo (to : Int) (l : List Int) : Prop := to = 0 ∨ ∃ a ∈ l, to = a + 1
theorem heapBroken_spec {p : Pl} {v : Value} (who field to : Int) (w : World) (hv : PlanV w p v) (b3 : u64B to) : CallC Pr f_gleanerlaw14_HeapBroken [v, .int .i64 who, .int .i64 field, .int .u64 to] w (fun v w' => v = .bool true ∧ Fr No w w') := by
  obtain ⟨tv, hvv, rfl, hT, hH⟩ := id hv
  obtain ⟨ta, tc, rfl, tl, _⟩ := id hT
  obtain ⟨ha, hc, rfl, hl, _⟩ := id hH
  refine call_sound T_ok fun_gleanerlaw14_HeapBroken rfl (by kernel_rfl) rfl (Kp ?_)
  refine NewC_blk (fun p4 w1 e_p4 q1 f1 s1 => ?_)
  have q1 : Blk w1 p4 t_gleanerref14_Plan (planL p (.slice ta p.ts.length tc) (.slice ha p.hs.length hc)) := q1
  refine CallC_intro (awake14_spec w1) (fun v w2 ⟨hv2, f2⟩ => ?_)
  subst hv2
  have q2 := q1.keep f2 id
  have F2 := f1.no f2
  have sz1 := f1.size
  have sz2 := f2.size
  refine LdN_blk (vs := planL p (.slice ta p.ts.length tc) (.slice ha p.hs.length hc)) (q2) rfl rfl ?_
  refine CallC_intro (Right_spec w2 (hv.keep F2)) (fun v w3 ⟨⟨ok, hv3, hok⟩, f3⟩ => ?_)
  subst hv3
  have q3 := q2.keep f3 id
  have F3 := F2.no f3
  have sz3 := f3.size
  cases ok with
  | false => exact ⟨rfl, F3⟩
  | true =>
  have hp := hok rfl
  have hV := hp.v
  have hP := P_le hV
  have htl := hp.tl
  refine LdC_blk (q3) rfl ?_
  refine Br_dec (fun g => ?_) (fun g => ?_)
  · exact ⟨rfl, F3⟩
  have g : ¬ (p.ts.length : Int) = 0 := g
  refine LdN_blk (vs := planL p (.slice ta p.ts.length tc) (.slice ha p.hs.length hc)) (q3) rfl rfl ?_
  refine CallC_intro (Build_spec w3 hp (hv.keep F3)) (fun v w4 ⟨hR, f4⟩ => ?_)
  have q4 := q3.keep f4 id
  have F4 := F3.no f4
  have sz4 := f4.size
  rcases hR with hR | ⟨wN, z4, hb, q, s, p7, av, at_, op, B, hR, hsz, B4, I4, U4⟩
  · subst hR
    refine NewC_blk (fun p9 w5 e_p9 q5 f5 s5 => ?_)
    refine StN_blk (q5) rfl (Nat.le_of_ble_eq_true rfl) (fun w6 q6 f6 s6 => ?_)
    exact ⟨rfl, (F4.no f5).new f6 (fun _ _ e => e) (fun k e => by omega)⟩
  subst hR
  obtain ⟨aa, ac, eav⟩ := own_slice B4.own
  subst eav
  refine NewC_blk (fun p9 w5 e_p9 q5 f5 s5 => ?_)
  refine StN_blk (q5) rfl (Nat.le_of_ble_eq_true rfl) (fun w6 q6 f6 s6 => ?_)
  have q6 : Blk w6 p9 t_gleanerlaw14_Built [ptr hb, .slice aa at_.length ac] := q6
  have f46 : Fr No w4 w6 := f5.new f6 (fun _ _ e => e) (fun k e => by omega)
  have q46 := q4.keep f46 id
  have F6 := F4.no f46
  refine AnyC_plan T_ok mixed (planO [0,1,2,3,4,5,6,7,8,9,10,11,12,13]) ((fun w' => Blk w' p4 t_gleanerref14_Plan (planL p (.slice ta p.ts.length tc) (.slice ha p.hs.length hc)))) (by kernel_rfl) (by kernel_rfl) ((q46.keep (Fr.drew _) id)) (Kp ?_)
  have hN : (1 : Int) ≤ p.ts.length := by omega
  obtain ⟨x1, x2⟩ := ixN_in (x := who) hN (by omega)
  obtain ⟨i, hi⟩ : ∃ i : Nat, ixN who p.ts.length = (i : Int) := ⟨(ixN who p.ts.length).toNat, by omega⟩
  rw [hi] at x1 x2
  have hI : (IntKind.i64.wrap (who.tmod (p.ts.length : Int) + (p.ts.length : Int))).tmod (p.ts.length : Int) = (i : Int) := hi
  refine LdS_of (fun w' hw => hw) rfl (Kp ?_)
  refine Sd_intro (show (p.ts.length : Int) ≠ 0 from g) (Kp ?_)
  refine LdS_of (fun w' hw => hw) rfl (Kp ?_)
  refine LdS_of (fun w' hw => hw) rfl (Kp ?_)
  refine Sd_intro (show (p.ts.length : Int) ≠ 0 from g) (Kp ?_)
  have f67 : Fr No w6 w6.drew := Fr.drew w6
  obtain ⟨t, hti⟩ : ∃ t, p.ts[i]? = some t := ⟨_, List.getElem?_eq_getElem (by omega)⟩
  have ht := hp.t t (List.mem_of_getElem? hti)
  have hsz := (hp.size (List.mem_of_getElem? hti)).1
  rw [size_nat] at hsz
  obtain ⟨tok, tx, ra, rc, da, dc, ea, htv, hcell⟩ := thing_at hT hti
  subst ea
  have q47 := q46.keep f67 id
  have F7 := F6.no f67
  refine LdC_blk (q47) rfl ?_
  refine Sd_intro (by rw [hI]; omega) (Kp ?_)
  refine LdN_cells (vs := [.int .i64 t.st, .slice ra t.refs.length rc, .slice da t.data.length dc]) (fun j u hj => by rw [hI]; exact cell_keep (hcell j u hj) F7) rfl (Kp ?_)
  refine NewC_blk (fun pb w8 e_pb q8 f8 s8 => ?_)
  refine StN_blk (q8) rfl (Nat.le_of_ble_eq_true rfl) (fun w9 q9 f9 s9 => ?_)
  have q9 : Blk w9 pb t_gleanerref14_Thing [.int .i64 t.st, .slice ra t.refs.length rc, .slice da t.data.length dc] := q9
  have f79 : Fr No w6.drew w9 := f8.new f9 (fun _ _ e => e) (fun k e => by omega)
  have f69 := f67.no f79
  have q49 := q46.keep f69 id
  have q69 := q6.keep f69 id
  have F9 := F6.no f69
  have sz6 := f46.size
  have sz7 := f67.size
  have sz9 := f79.size
  refine LdC_blk (q9) rfl ?_
  refine Br_dec (fun g1 => ?_) (fun g1 => ?_)
  · exact ⟨rfl, F9⟩
  have g1 : ¬ (t.refs.length : Int) = 0 := g1
  obtain ⟨y1, y2⟩ := ixN_in (x := field) (n := t.refs.length) (by omega) (by omega)
  obtain ⟨k, hk⟩ : ∃ k : Nat, ixN field t.refs.length = (k : Int) := ⟨(ixN field t.refs.length).toNat, by omega⟩
  rw [hk] at y1 y2
  have hK : (IntKind.i64.wrap (field.tmod (t.refs.length : Int) + (t.refs.length : Int))).tmod (t.refs.length : Int) = (k : Int) := hk
  refine AnyC_plan T_ok mixed (planO [0,1,2,3,4,5,6,7,8,9,10,11,12,13]) ((fun w' => Blk w' pb t_gleanerref14_Thing [.int .i64 t.st, .slice ra t.refs.length rc, .slice da t.data.length dc])) (by kernel_rfl) (by kernel_rfl) ((q9.keep (Fr.drew _) id)) (Kp ?_)
  refine LdS_of (fun w' hw => hw) rfl (Kp ?_)
  refine Sd_intro (show (t.refs.length : Int) ≠ 0 from g1) (Kp ?_)
  refine LdS_of (fun w' hw => hw) rfl (Kp ?_)
  refine LdS_of (fun w' hw => hw) rfl (Kp ?_)
  refine Sd_intro (show (t.refs.length : Int) ≠ 0 from g1) (Kp ?_)
  have f9a : Fr No w9 w9.drew := Fr.drew w9
  have f6a := f69.no f9a
  refine LoopC_intro (α := Bool × Int) (fun x => [(3, .int .u64 to), (9, ptr p9), (12, .int .i64 i), (14, .int .i64 k), (15, .bool x.1), (16, .int .i64 x.2)])
    (fun m x w' => Fr No w6 w' ∧ (x.1 = true ↔ GoodTo to (at_.take x.2.toNat)) ∧ 0 ≤ x.2 ∧ x.2 ≤ at_.length ∧ m = (at_.length - x.2).toNat)
    (at_.length - 0 : Int).toNat (decide (to = 0), 0) ⟨rfl, rfl, look_int rfl hI, look_int rfl hK, rfl, rfl, trivial⟩ ⟨f6a, ?_, Int.le_refl _, (show (0 : Int) ≤ at_.length by omega), rfl⟩ (fun m x w10 hJ => Kp ?_)
  · show decide (to = 0) = true ↔ (to = 0 ∨ ∃ a ∈ at_.take 0, to = a + 1)
    simp
  obtain ⟨gd, j⟩ := x
  obtain ⟨f10, hgd, j0, j1, hm⟩ := hJ
  have j0 : 0 ≤ j := j0
  have j1 : j ≤ (at_.length : Int) := j1
  have hm : m = (at_.length - j).toNat := hm
  have hgd : gd = true ↔ GoodTo to (at_.take j.toNat) := hgd
  have q610 := q6.keep f10 id
  refine LdC_blk (q610) rfl ?_
  refine Br_dec (fun g2 => ?_) (fun g2 => ?_)
  · have g2 : j < (at_.length : Int) := g2
    obtain ⟨a, haj⟩ : ∃ a, at_[j.toNat]? = some a := ⟨_, List.getElem?_eq_getElem (by omega)⟩
    have hlen := U4.len
    have hjl : j.toNat < at_.length := by clear hgd; omega
    have ej : (j + 1).toNat = j.toNat + 1 := by clear hgd; omega
    have wj : IntKind.i64.wrap (j + 1) = j + 1 := by clear hgd; exact wrap_i64 (by omega) (by omega)
    have js : (at_.length - (j + 1)).toNat < m ∧ 0 ≤ j + 1 ∧ j + 1 ≤ (at_.length : Int) := by clear hgd; omega
    have htake : at_.take (j + 1).toNat = at_.take j.toNat ++ [a] := by
      rw [ej, List.take_add_one, haj]; rfl
    have hfj : 0 ≤ a ∧ a ≤ 4194304 := by
      have hlen := U4.len
      obtain ⟨u, hu⟩ : ∃ u, p.ts[j.toNat]? = some u := ⟨_, List.getElem?_eq_getElem (by omega)⟩
      have h1 := B4.fit j.toNat a u haj hu
      have h2 := (hp.t u (List.mem_of_getElem? hu)).1
      omega
    cases gd with
    | true =>
      refine ⟨(at_.length - (j + 1)).toNat, _, js.1, ?_, (true, j + 1), rfl, f10, ?_, js.2.1, js.2.2, rfl⟩
      · exact ⟨rfl, rfl, rfl, rfl, rfl, look_int rfl wj, trivial⟩
      · show true = true ↔ GoodTo to (at_.take (j + 1).toNat)
        rw [htake]
        refine ⟨fun _ => ?_, fun _ => rfl⟩
        rcases hgd.1 rfl with e | ⟨b, hb, e⟩
        · exact .inl e
        · exact .inr ⟨b, List.mem_append_left _ hb, e⟩
    | false =>
      obtain ⟨x, ex, hx⟩ := (B4.ints.keep (f46.no f10) (fun _ _ => id)).cell hjl
      have ea : at_[j.toNat]'hjl = a := by
        rw [List.getElem?_eq_getElem hjl] at haj
        injection haj
      rw [ea] at hx
      subst ex
      refine LdC_blk (q610) rfl ?_
      refine Sd_intro (show 0 ≤ j ∧ j < (at_.length : Int) from ⟨j0, g2⟩) (Kp ?_)
      refine LdC_intro (v := .int .i64 a) (by rw [Nat.mul_one]; exact hx) (Kp ?_)
      refine ⟨(at_.length - (j + 1)).toNat, _, js.1, ?_, (decide (to = a + 1), j + 1), rfl, f10, ?_, js.2.1, js.2.2, rfl⟩
      · refine ⟨rfl, rfl, rfl, rfl, ?_, look_int rfl wj, trivial⟩
        have e1 : IntKind.u64.wrap (IntKind.i64.wrap (a + 1)) = a + 1 := by rw [wrap_i64 (by omega) (by omega), wrap_u64 (by omega) (by omega)]
        have e2 : decide (to = IntKind.u64.wrap (IntKind.i64.wrap (a + 1))) = decide (to = a + 1) := by rw [e1]
        exact Eq.trans (b := some (Value.bool (decide (to = IntKind.u64.wrap (IntKind.i64.wrap (a + 1)))))) rfl (congrArg (fun b => some (Value.bool b)) e2)
      · show decide (to = a + 1) = true ↔ GoodTo to (at_.take (j + 1).toNat)
        rw [htake, decide_eq_true_iff]
        constructor
        · intro e
          exact .inr ⟨a, List.mem_append_right _ List.mem_cons_self, e⟩
        · rintro (e | ⟨b, hb, e⟩)
          · exact absurd (hgd.2 (.inl e)) (by decide)
          · rcases List.mem_append.1 hb with q | q
            · exact absurd (hgd.2 (.inr ⟨b, q, e⟩)) (by decide)
            · rw [e, List.mem_singleton.1 q]
  · have g2 : ¬ j < (at_.length : Int) := g2
    rw [List.take_of_length_le (by omega)] at hgd
    have hlen := U4.len
    obtain ⟨a, hai⟩ : ∃ a, at_[i]? = some a := ⟨_, List.getElem?_eq_getElem (by omega)⟩
    have hfi := B4.fit i a t hai hti
    rw [size_nat] at hfi
    obtain ⟨z10, ez10⟩ : ∃ z10, z10 = zput (zput z4 p9 9999) pb 9999 := ⟨_, rfl⟩
    have npb : p9 ≠ pb := by omega
    have m10 : Mv z4 z10 (fun _ => False) w4 w10 := by rw [ez10]; exact ((Mv.of (f46.no f10)).put (by omega)).put (by omega)
    have B10 := B4.mv0 m10
    have zp9 : z10 p9 = 9999 := by rw [ez10, zput_ne npb, zput_self]
    obtain ⟨x, ex, hx⟩ := B10.ints.cell (show i < at_.length by omega)
    have ea : at_[i]'(by omega) = a := by
      rw [List.getElem?_eq_getElem (by omega)] at hai
      injection hai
    rw [ea] at hx
    subst ex
    have S10 : ∀ {w' : World}, Fr No w10 w' → Blk w' p9 t_gleanerlaw14_Built [ptr hb, .slice (some x) at_.length ac] ∧ Blk w' hb t_heap_Heap (heapL p.c q) ∧ w'.cell? (x.add i) = some (.int .i64 a) := fun f => ⟨q610.keep f id, B10.h.tab.keep f id, cell_keep hx f⟩
    have D10 : Fr No w10 w10.drew := Fr.drew w10
    have e9 : IntKind.i64.wrap (IntKind.i64.wrap (a + 1) + (k : Int)) = a + ((1 + k : Nat) : Int) := by
      rw [wrap_i64 (n := a + 1) (by omega) (by omega), wrap_i64 (by omega) (by omega)]; omega
    refine AnyC_plan T_ok mixed (planO [0,1,2,3,4,5,6,7,8,9,10,11,12,13,1014]) ((fun w' => Blk w' p9 t_gleanerlaw14_Built [ptr hb, .slice (some x) at_.length ac] ∧ Blk w' hb t_heap_Heap (heapL p.c q) ∧ w'.cell? (x.add i) = some (.int .i64 a))) (by kernel_rfl) (by kernel_rfl) ((S10 (Fr.drew _))) (Kp ?_)
    refine LdS_of (fun w' hw => hw.1) rfl (Kp ?_)
    refine LdS_of (fun w' hw => hw.2.1) rfl (Kp ?_)
    refine LdS_of (fun w' hw => hw.1) rfl (Kp ?_)
    refine Sd_intro (show 0 ≤ (i : Int) ∧ (i : Int) < (at_.length : Int) by omega) (Kp ?_)
    refine LdS_intro (v := .int .i64 a) (fun w' hw => by rw [Nat.mul_one]; exact hw.2.2) (Kp ?_)
    refine ⟨Kp ?_, trivial⟩
    have hBi := U4.fil.2 i a t hai hti
    have hst : CallC Pr f_arena_Arena_Store [ptr q.ab, .int .i64 (a + ((1 + k : Nat) : Int)), .int .u64 to] w10.drew _ := Store_obj (B10.no D10).h I4 hBi (j := 1 + k) to (by omega) (by rw [linW_len]; omega) b3
    rw [← e9] at hst
    refine CallC_intro hst (fun v w11 ⟨hv11, acc11, H11, I11, m11⟩ => ?_)
    subst hv11
    have m1011 : Mv z10 z10 (· = 2) w10 w11 := (Mv.of (S := (· = 2)) D10).same m11
    have B11 := B10.upd m1011 (fun i e => by omega) H11 rfl rfl
    have q11 := (q610.mv zp9 m1011 (by decide)).1
    refine Sd_intro ⟨q11, B11.h.tab, ?_⟩ (Kp ?_)
    · obtain ⟨x', ex', hx'⟩ := B11.ints.cell (show i < at_.length by omega)
      obtain rfl : x = x' := by injection ex'
      rw [ea] at hx'
      exact hx'
    obtain ⟨s12, es12⟩ : ∃ s12 : HS, s12 = { s with acc := acc11, ws := s.ws.set (a.toNat + (1 + k)) to } := ⟨_, rfl⟩
    have H11 : HeapAt w11 z10 p.c hb q s12 := by rw [es12]; exact H11
    have I11 : ∀ qa, Laid p.c (s12.setAcc qa).ws (s12.setAcc qa).rs (endS p.c (s12.setAcc qa)) (topS (P p.c) (s12.setAcc qa).rs) (fun _ => False) (B.set i (a, (linW at_ t).set (1 + k) to)) := fun qa => by
      rw [es12]
      exact BInv.at_ends (s := ({ s with acc := acc11, ws := s.ws.set (a.toNat + (1 + k)) to } : HS).setAcc qa) I11 B4.bu
    have hrl : ∀ qa, ((s12.setAcc qa).rs.length : Int) = p.c.c1 := fun qa => H11.rsl
    have her : ∀ qa, (s12.setAcc qa).refs = s.refs := fun qa => by rw [es12]; rfl
    have hGood : GoodTo to at_ ↔ (to = 0 ∨ ∃ d ∈ B, to = d.1 + 1) := by
      unfold GoodTo
      rw [U4.addr]
    have okg : GoodTo to at_ → ∀ qa, ∃ L, okS p.c (s12.setAcc qa) = some L := fun hg qa => by
      obtain ⟨h1, h2⟩ := brk_good U4 hp hti hBi (show k < t.refs.length by omega) (hGood.1 hg)
      obtain ⟨L, e, _⟩ := (I11 qa).okS (by omega) (hrl qa) h1 (by rw [her]; exact h2)
      exact ⟨L, e⟩
    have okb : ¬ GoodTo to at_ → ∀ qa, okS p.c (s12.setAcc qa) = none := fun hg qa => by
      obtain ⟨b, hb', hn⟩ := brk_bad hp hti hBi (show k < t.refs.length by omega) (fun h => hg (hGood.2 h))
      exact (I11 qa).bad (by omega) (hrl qa) hb' hn
    have F11 : Fr No w w11 := F4.trans (m10.trans m1011 (fun _ e => e.elim) (fun _ e => e) : Mv z4 z10 (· = 2) w4 w11).fr (fun _ _ e => e) (fun k' hk e => by
      have := B4.zo k' (by omega)
      rw [this] at e; cases e)
    obtain ⟨ar0, hA0, zab, _⟩ := B4.h.arena
    have nab : ∀ k', k' < w.heap.size → k' ≠ q.ab := fun k' hk e => by
      have := B4.zo k' (by omega)
      rw [e, zab] at this; cases this
    have np9 : p9 ≠ q.ab := fun e => by
      have := hA0.tab.lt
      omega
    obtain ⟨ar, HA11⟩ := H11.ha
    refine LdC_blk (q11) rfl ?_
    refine CallC_intro (Shape_spec w11 HA11) (fun v w12 ⟨⟨qa, HA12⟩, f12, hv12⟩ => ?_)
    have q12 := q11.keep f12 np9
    have F12 : Fr No w w12 := F11.trans f12 (fun _ _ e => e) (fun k' hk e => nab k' hk e)
    by_cases hg : GoodTo to at_
    · have egd : gd = true := hgd.2 hg
      subst egd
      obtain ⟨L, eL⟩ := okg hg s12.acc
      have eL : okS p.c s12 = some L := eL
      rw [eL] at hv12
      obtain ⟨out, hv12, own⟩ := hv12
      subst hv12
      obtain ⟨oa, oc, eo⟩ := own_slice own
      subst eo
      refine LdC_blk (q12) rfl ?_
      refine CallC_intro (Check_spec w12 HA12) (fun v w13 ⟨_, f13, hv13⟩ => ?_)
      obtain ⟨L2, eL2⟩ := okg hg qa
      have ec : chkV p.c (s12.setAcc qa) = 0 := by unfold chkV; rw [eL2]
      rw [ec] at hv13
      subst hv13
      exact ⟨rfl, F12.trans f13 (fun _ _ e => e) (fun k' hk e => nab k' hk e)⟩
    · have egd : gd = false := by
        cases gd with
        | true => exact absurd (hgd.1 rfl) hg
        | false => rfl
      subst egd
      have eL : okS p.c s12 = none := okb hg s12.acc
      rw [eL] at hv12
      have hv12 : v = .tuple #[.slice none 0 0, .int .i64 30] := hv12
      subst hv12
      refine LdC_blk (q12) rfl ?_
      refine CallC_intro (Check_spec w12 HA12) (fun v w13 ⟨⟨qb, HA13⟩, f13, hv13⟩ => ?_)
      have ec : chkV p.c (s12.setAcc qa) = 30 := by unfold chkV; rw [okb hg qa]
      rw [ec] at hv13
      subst hv13
      have q13 := q12.keep f13 np9
      have F13 : Fr No w w13 := F12.trans f13 (fun _ _ e => e) (fun k' hk e => nab k' hk e)
      refine LdC_blk (q13) rfl ?_
      refine NewC_blk (fun pl w14 e_pl q14 f14 s14 => ?_)
      refine CallC_intro (Lost_bad _ w14 (HA13.no f14) (okb hg qb)) (fun v w15 ⟨hv15, _, f15⟩ => ?_)
      subst hv15
      exact ⟨rfl, (F13.no f14).trans f15 (fun _ _ e => e) (fun k' hk e => nab k' hk e)⟩
end Go.Proofs.YtdhbpklmkibmbaaGreat
