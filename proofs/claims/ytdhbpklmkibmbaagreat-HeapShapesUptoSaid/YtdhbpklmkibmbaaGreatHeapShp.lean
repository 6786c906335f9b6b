/- Law HeapShapes. -/
import Derived.Test.YtdhbpklmkibmbaaGreatGrB
namespace Go.Proofs.YtdhbpklmkibmbaaGreat
open Go.Vc

theorem cells_refl2 : ∀ (l : List Int), cellsEq (l.map (Value.int .i64)) (l.map (Value.int .i64)) = true := by
  intro l
  induction l with
  | nil => rfl
  | cons x l ih =>
    show ((x == x) && _) = true
    rw [ih]; simp
theorem hd_refl (h : Hd) : cellsEq h.L h.L = true := cells_refl2 [h.kind, h.size, h.ptrs, h.age, h.to]
theorem neSt2 {P : Program} {t : TypeId} {X Y : Operand} {cs ds : List Value} {w : World} {K : Value → World → Prop} (h : eqStruct P t cs ds = true) (e : cellsEq cs ds = true) (k : K (.bool false) w) :
    RunC P (do eqGuard .neq t X Y (.agg cs.toArray) (.agg ds.toArray); binOp .neq t (.agg cs.toArray) (.agg ds.toArray)) w K := NeS h (by rw [e]; exact k)
theorem gO_map (ts : List Th) : gO (ts.map obP) = gP ts := by
  funext r
  unfold gO gP
  split
  · rw [List.getElem?_map]
    cases ts[r.toNat - 1]? <;> rfl
  · rfl
theorem fm_len {f : Int → Option Ob} : ∀ {l : List Int}, (∀ a ∈ l, ∃ y, f a = some y) → (l.filterMap f).length = l.length := by
  intro l
  induction l with
  | nil => intro _; rfl
  | cons a l ih =>
    intro h
    obtain ⟨y, hy⟩ := h a List.mem_cons_self
    rw [List.filterMap_cons, hy]
    show (l.filterMap f).length + 1 = l.length + 1
    rw [ih fun b hb => h b (List.mem_cons_of_mem _ hb)]
section
variable {c : Cfg} {s : HS} {E : Int → Int} {B : List LObj}
/-- A row holds objects alone. -/
theorem row_full (hL : Laid c s.ws s.rs (endS c s) E (fun _ => False) B) (hp : 1 ≤ P c) {k : Int} {l : List Int} (e : rowS c s k = some l) : (rowObs s.ws l).length = l.length := by
  obtain ⟨l', e', hm⟩ := hL.row hp k
  rw [e] at e'
  injection e' with e'
  subst e'
  unfold rowObs
  refine fm_len fun a ha => ?_
  obtain ⟨b, hb, e1, _⟩ := (hm a).1 ha
  obtain ⟨hs, p, ho⟩ := hL.objs b hb
  have := hs.hdr ho
  rw [e1] at this
  exact ⟨_, by rw [this]; rfl⟩
end
section
variable {p : Pl} {s : HS} {at_ : List Int} {B : List LObj} {E : Int → Int}
/-- All things are told. -/
theorem cnt_le {w : World} {z : Nat → Nat} {hb : Nat} {q : HP} (hh : HeapAt w z p.c hb q s) (hL : Laid p.c s.ws s.rs (endS p.c s) E (fun _ => False) B) (U : BuiltS p s at_ B) (hp : 1 ≤ P p.c) {n : Nat} {L : List Ob} (hn : (n : Int) ≤ p.c.c1) (e : objsF p.c s n = some L) : L.length ≤ p.ts.length := by
  obtain ⟨L', e', hm⟩ := hL.objsF hp n
  rw [e] at e'
  injection e' with e'
  subst e'
  have nd : (Ks L).Nodup := by
    unfold Ks
    exact List.pairwise_map.2 ((ks_lt hh n L hn e).imp fun q => by omega)
  have := sub_len nd (K := at_.map (· + 1)) fun r hr => by
    unfold Ks at hr
    obtain ⟨o, ho, rfl⟩ := List.mem_map.1 hr
    obtain ⟨b, hb, _, rfl⟩ := (hm o).1 ho
    obtain ⟨j, a, t, h1, h2, _, e2⟩ := U.fil.get U.len hb
    refine List.mem_map.2 ⟨a, List.mem_of_getElem? h1, ?_⟩
    rw [e2]; rfl
  rw [List.length_map, U.len] at this
  unfold Ks at this
  rw [List.length_map] at this
  exact this
theorem cnt_all {w : World} {z : Nat → Nat} {hb : Nat} {q : HP} (hh : HeapAt w z p.c hb q s) (hP : PlanOk p) (hL : Laid p.c s.ws s.rs (endS p.c s) E (fun _ => False) B) (U : BuiltS p s at_ B) (hp : 1 ≤ P p.c) {L : List Ob} (e : objsF p.c s p.c.c1.toNat = some L) : L.length = p.ts.length := by
  have hr0 := hh.ok.r0
  have h1 := cnt_le hh hL U hp (by omega) e
  obtain ⟨L', e', hm⟩ := hL.objs_all hp hh.rsl
  have e' : objsF p.c s p.c.c1.toNat = some L' := e'
  rw [e] at e'
  injection e' with e'
  subst e'
  have k1 : (at_.map (· + 1)).length ≤ (Ks L).length := by
    refine sub_len ?_ fun r hr => ?_
    · refine List.pairwise_map.2 (List.pairwise_iff_getElem.2 fun i j hi hj hij e => ?_)
      have e : at_[i] = at_[j] := by omega
      have := U.fil.inj hL U.len (i := i) (j := j) (List.getElem?_eq_getElem hi) (by rw [List.getElem?_eq_getElem hj, e])
      omega
    · obtain ⟨a, ha, rfl⟩ := List.mem_map.1 hr
      obtain ⟨j, hj, e⟩ := List.getElem_of_mem ha
      have hlen := U.len
      obtain ⟨b, hb, e2⟩ := fil_mem hP U.fil (j := j) (a := a) (by rw [List.getElem?_eq_getElem hj, e]) (List.getElem?_eq_getElem (show j < p.ts.length by omega))
      unfold Ks
      exact List.mem_map.2 ⟨obB b, (hm _).2 ⟨b, hb, rfl⟩, by rw [e2]⟩
  rw [List.length_map, U.len] at k1
  unfold Ks at k1
  rw [List.length_map] at k1
  omega
end
theorem objV_at {ws W : List Int} {a : Int} {n : Nat} (h : Seg ws a W) (o : ObjW W n) : objV ws (a + 1) = (⟨1, W.length, n, 0, 0⟩, 0) := by
  have h0 := h.1
  have hw : a.toNat + 0 < ws.length := (List.getElem?_eq_some_iff.1 (h.2 0 _ o.1)).1
  have hh := h.hdr o
  have ha : atS ws a = (⟨1, W.length, n, 0, 0⟩, 0) := by
    unfold atS
    rw [if_pos (by omega), hh]
  unfold objV
  rw [if_neg (by omega), if_neg (by omega), show a + 1 - 1 = a by omega, ha]
  rfl
def shpP : Plan := .take 0 (.take 1 (.take 2 (.take 3 (.take 4
  (.alt 5 (.alt 6 (.take 7 (.take 8 (.take 9 (.alt 10 (.alt 11 (.take 12 .done) .stop) .stop))))
      (.alt 10 (.alt 6 (.take 7 (.take 8 (.take 9 (.alt 11 (.take 12 .done) .stop)))) .stop) .stop))
    (.alt 10 (.alt 5 (.alt 6 (.take 7 (.take 8 (.take 9 (.alt 11 (.take 12 .done) .stop)))) .stop) .stop) .stop))))))
set_option maxHeartbeats 8000000 in
theorem heapShapes_spec {p : Pl} {v : Value} (w : World) (hv : PlanV w p v) : CallC Pr f_gleanerlaw14_HeapShapes [v] w (fun v w' => v = .bool true ∧ Fr No w w') := by
  obtain ⟨tv, hvv, rfl, hTh, hH⟩ := id hv
  obtain ⟨ta, tc, rfl, tl, _⟩ := id hTh
  obtain ⟨ha, hc, rfl, hl, _⟩ := id hH
  refine callU_sound T_ok fun_gleanerlaw14_HeapShapes rfl (by kernel_rfl) rfl (Kp ?_)
  refine NewC_blk (fun p3 w1 e_p3 q1 f1 s1 => ?_)
  have q1 : Blk w1 p3 t_gleanerref14_Plan (planL p (.slice ta p.ts.length tc) (.slice ha p.hs.length hc)) := q1
  refine Cut_no ?_
  refine CallC_intro (awake14_spec w1) (fun v w2 ⟨hv2, f2⟩ => ?_)
  subst hv2
  have q2 := q1.keep f2 id
  have F2 := f1.no f2
  have sz1 := f1.size
  have sz2 := f2.size
  refine Cut_no ?_
  refine LdN_blk (vs := planL p (.slice ta p.ts.length tc) (.slice ha p.hs.length hc)) (q2) rfl rfl ?_
  refine CallC_intro (Right_spec w2 (hv.keep F2)) (fun v w3 ⟨⟨ok, hv3, hok⟩, f3⟩ => ?_)
  subst hv3
  have q3 := q2.keep f3 id
  have F3 := F2.no f3
  have sz3 := f3.size
  cases ok with
  | false => exact ⟨rfl, F3⟩
  | true =>
  have hp := hok rfl
  have hV := hp.v
  have hP := P_le hV
  have htl := hp.tl
  refine LdN_blk (vs := planL p (.slice ta p.ts.length tc) (.slice ha p.hs.length hc)) (q3) rfl rfl ?_
  refine CallC_intro (Build_spec w3 hp (hv.keep F3)) (fun v w4 ⟨hR, f4⟩ => ?_)
  have q4 := q3.keep f4 id
  have F4 := F3.no f4
  have sz4 := f4.size
  rcases hR with hR | ⟨wN, z4, hb, q, s, p7, av, at_, op, B, hR, hsz, B4, I4, U4⟩
  · subst hR
    refine NewC_blk (fun p9 w5 e_p9 q5 f5 s5 => ?_)
    refine StN_blk (q5) rfl (Nat.le_of_ble_eq_true rfl) (fun w6 q6 f6 s6 => ?_)
    refine Cut_no ?_
    exact ⟨rfl, (F4.no f5).new f6 (fun _ _ e => e) (fun k e => by omega)⟩
  subst hR
  obtain ⟨aa, ac, eav⟩ := own_slice B4.own
  subst eav
  refine NewC_blk (fun p9 w5 e_p9 q5 f5 s5 => ?_)
  refine StN_blk (q5) rfl (Nat.le_of_ble_eq_true rfl) (fun w6 q6 f6 s6 => ?_)
  have q6 : Blk w6 p9 t_gleanerlaw14_Built [ptr hb, .slice aa at_.length ac] := q6
  have f46 : Fr No w4 w6 := f5.new f6 (fun _ _ e => e) (fun k e => by omega)
  have F6 := F4.no f46
  have p46 := q4.keep f46 id
  have sz46 := f46.size
  refine Cut_no ?_
  have hL := I4.at_ends B4.bu
  have B6 := B4.no f46
  have hlen := U4.len
  obtain ⟨L, okL, hmL⟩ := hL.okS (by omega) B4.h.rsl (U4.known hp) (U4.rknown hp)
  obtain ⟨ar, HA6⟩ := B6.h.ha
  have nab : ∀ k', k' < w3.heap.size → k' ≠ q.ab := fun k' hk e => by
    have := B4.zo k' (by omega)
    have h2 := HA6.zb
    rw [← e, this] at h2
    cases h2
  have np3 : p3 ≠ q.ab := nab p3 (by omega)
  have np9 : p9 ≠ q.ab := fun e => by
    obtain ⟨_, hA, _⟩ := B4.h.arena
    have := hA.tab.lt
    omega
  have FA : ∀ {w' : World}, Fr (· = q.ab) w6 w' → Fr No w w' := fun f => F6.trans f (fun _ _ e => e) (fun k' hk e => nab k' (by omega) e)
  refine LdC_blk (q6) rfl ?_
  refine CallC_intro (Shape_spec w6 HA6) (fun v w7 ⟨⟨qa, HA7⟩, f7, hv7⟩ => ?_)
  rw [okL] at hv7
  obtain ⟨out, hv7, own7⟩ := hv7
  subst hv7
  have sh := shape_plan hp B4.h hL U4.fil U4.len okL hmL U4.refs (fun l hl r hr => by
    rcases List.mem_append.1 hl with h | h
    · exact (hp.h l h).2 r hr
    · rw [(List.mem_replicate.1 h).2] at hr; cases hr)
  rw [sh] at own7
  obtain ⟨oa, oc, eo⟩ := own_slice own7
  subst eo
  have q7 := q6.keep f7 np9
  have p7' := p46.keep f7 np3
  refine Cut_no ?_
  refine LdC_blk (q7) rfl ?_
  refine CallC_intro (Check_spec w7 HA7) (fun v w8 ⟨⟨qb, HA8⟩, f8, hv8⟩ => ?_)
  have ec : chkV p.c (s.setAcc qa) = 0 := by
    unfold chkV
    obtain ⟨L2, e2, _⟩ := Laid.okS (s := s.setAcc qa) (by omega) hL B4.h.rsl (U4.known hp) (U4.rknown hp)
    rw [e2]
  rw [ec] at hv8
  subst hv8
  have f68 := f7.trans f8 (fun _ _ e => e) (fun _ _ e => e)
  have q8 := q6.keep f68 np9
  have p8 := p46.keep f68 np3
  have F8 := FA f68
  refine LdN_blk (vs := planL p (.slice ta p.ts.length tc) (.slice ha p.hs.length hc)) (p8) rfl rfl ?_
  refine CallC_intro (Graph_spec w8 hp (hv.keep F8)) (fun v w9 ⟨⟨gb, hv9, hG⟩, f9⟩ => ?_)
  subst hv9
  have gi : GrIn (p.hs ++ List.replicate (p.c.c3.toNat - p.hs.length) []) (p.ts.map obP) := by
    have c3 : 1 ≤ p.c.c3 ∧ p.c.c3 ≤ 64 := hV.ls 1 (p.c.c3, 1, 64) rfl
    have c4 : 1 ≤ p.c.c4 ∧ p.c.c4 ≤ 64 := hV.ls 2 (p.c.c4, 1, 64) rfl
    have hl' := hp.hl
    refine ⟨by rw [List.length_map]; omega, by rw [List.length_append, List.length_replicate]; omega, fun l hl => ?_, fun o ho => ?_⟩
    · rw [List.length_map]
      rcases List.mem_append.1 hl with h | h
      · have := hp.h l h
        exact ⟨by omega, this.2⟩
      · rw [(List.mem_replicate.1 h).2]
        exact ⟨by decide, fun r hr => by cases hr⟩
    · rw [List.length_map]
      obtain ⟨t, ht, rfl⟩ := List.mem_map.1 ho
      have hsz := (hp.size ht).1
      rw [size_nat] at hsz
      exact ⟨by show (t.refs.length : Int) ≤ _; omega, by show (t.data.length : Int) ≤ _; omega, (hp.t t ht).2.2.2.2.2⟩
  refine CallC_intro (GShape_spec w9 hG gi) (fun v wa ⟨owna, lena, fa⟩ => ?_)
  rw [gO_map, List.length_map] at owna lena
  obtain ⟨ga, gc, eg⟩ := own_slice owna
  subst eg
  have f7a : Fr (· = q.ab) w7 wa := f8.trans (f9.no fa) (fun _ _ e => e) (fun _ _ e => e.elim)
  have own7a := own_keepV (show w7.ownsRow w6.heap.size t_uint64 1 _ _ _ from own7) f7a (fun k hk e => by
    have e : k = q.ab := e
    have h1 := (World.ownsRow.lt (show w7.ownsRow w6.heap.size t_uint64 1 _ _ _ from own7) k hk).1
    have h2 := HA6.a.lt
    omega)
  refine CallC_intro (SameU_spec _ _ _ _ wa (OwnU.uc own7a) (OwnU.uc owna) (by omega)) (fun v wb ⟨hvb, fb⟩ => ?_)
  rw [decide_eq_true rfl] at hvb
  subst hvb
  have f8b : Fr No w8 wb := (f9.no fa).no fb
  have HAb := HA8.no f8b
  have f6b : Fr (· = q.ab) w6 wb := f68.trans f8b (fun _ _ e => e) (fun _ _ e => e.elim)
  have r0 := hV.r0
  have r1 := hV.r1
  have fAB : ∀ {u v : World}, Fr (· = q.ab) w6 u → Fr (· = q.ab) u v → Fr (· = q.ab) w6 v := fun f g => f.trans g (fun _ _ e => e) (fun _ _ e => e)
  have fAN : ∀ {u v : World}, Fr (· = q.ab) w6 u → Fr No u v → Fr (· = q.ab) w6 v := fun f g => f.trans g (fun _ _ e => e) (fun _ _ e => e.elim)
  -- the rows
  refine Cut_no ?_
  refine LoopC_intro (α := Int × Int) (fun x => [(1, ptr p3), (3, ptr p9), (8, .int .i64 x.1), (9, .int .i64 x.2)])
    (fun m x w' => ∃ qc L, HA w' z4 p.c hb q (s.setAcc qc) ar ∧ objsF p.c s x.2.toNat = some L ∧ x.1 = L.length ∧ Fr (· = q.ab) w6 w' ∧ 0 ≤ x.2 ∧ x.2 ≤ p.c.c1 ∧ m = (p.c.c1 - x.2).toNat)
    (p.c.c1 - 0 : Int).toNat (0, 0) ⟨rfl, rfl, rfl, rfl, trivial⟩ ⟨qb, [], HAb, rfl, rfl, f6b, Int.le_refl _, (show (0 : Int) ≤ p.c.c1 by omega), rfl⟩ (fun m x wc hJ => Kp ?_)
  obtain ⟨n, k⟩ := x
  obtain ⟨qc, Lk, HAc, eLk, hn, f6c, k0, k1, hm⟩ := hJ
  have eLk : objsF p.c s k.toNat = some Lk := eLk
  have hn : n = (Lk.length : Int) := hn
  have k0 : 0 ≤ k := k0
  have k1 : k ≤ p.c.c1 := k1
  have hm : m = (p.c.c1 - k).toNat := hm
  have hcl := cnt_le B4.h hL U4 (by omega) (show ((k.toNat : Nat) : Int) ≤ p.c.c1 by omega) eLk
  have qc6 := q6.keep f6c np9
  have pc6 := p46.keep f6c np3
  have tc6 := HAc.h.tab
  refine Cut_no ?_
  refine LdC_blk (qc6) rfl ?_
  refine LdC_blk (tc6) rfl ?_
  refine Br_dec (fun g => ?_) (fun g => ?_)
  · have g : k < p.c.c1 := g
    refine Cut_no ?_
    refine LdC_blk (qc6) rfl ?_
    refine CallC_intro (Row_spec k wc HAc ⟨k0, g⟩) (fun v wd ⟨⟨qd, HAd⟩, fd, hvd⟩ => ?_)
    obtain ⟨l, el, hml⟩ := hL.row (by omega) k
    have el' : rowS p.c (s.setAcc qc) k = some l := el
    rw [el'] at hvd
    obtain ⟨lv, hvd, ownd⟩ := hvd
    subst hvd
    obtain ⟨la, lc, elv⟩ := own_slice ownd
    subst elv
    have rf := row_full hL (by omega) el
    have st := objsF_step eLk (show rowS p.c s ((k.toNat : Nat) : Int) = some l by rw [show ((k.toNat : Nat) : Int) = k by omega]; exact el)
    have ek : (k + 1).toNat = k.toNat + 1 := by omega
    have hc2 := cnt_le B4.h hL U4 (by omega) (show (((k.toNat + 1 : Nat)) : Int) ≤ p.c.c1 by omega) st
    rw [List.length_append, rf] at hc2
    refine Cut_no ?_
    refine ⟨(p.c.c1 - (k + 1)).toNat, _, by omega, ?_, (((Lk ++ rowObs s.ws l).length : Nat), k + 1), rfl, qd, _, HAd, (by rw [ek]; exact st), rfl, fAB f6c fd, (show 0 ≤ k + 1 by omega), (show k + 1 ≤ p.c.c1 by omega), rfl⟩
    exact ⟨rfl, rfl, look_int rfl (by rw [hn, List.length_append, rf, wrap_i64 (by omega) (by omega)]; omega), look_int rfl (wrap_i64 (by omega) (by omega)), trivial⟩
  have g : ¬ k < p.c.c1 := g
  rw [show k.toNat = p.c.c1.toNat by omega] at eLk
  have hall := cnt_all B4.h hp hL U4 (by omega) eLk
  have hn : n = (p.ts.length : Int) := by omega
  -- the things
  refine Cut_no ?_
  refine LoopC_intro (α := Int) (fun i => [(1, ptr p3), (3, ptr p9), (8, .int .i64 n), (12, .int .i64 i)])
    (fun m i w' => ∃ qc, HA w' z4 p.c hb q (s.setAcc qc) ar ∧ Fr (· = q.ab) w6 w' ∧ 0 ≤ i ∧ i ≤ p.ts.length ∧ m = (p.ts.length - i).toNat)
    (p.ts.length - 0 : Int).toNat 0 ⟨rfl, rfl, rfl, rfl, trivial⟩ ⟨qc, HAc, f6c, Int.le_refl _, (show (0 : Int) ≤ p.ts.length by omega), rfl⟩ (fun m i wd hJ => Kp ?_)
  obtain ⟨qd, HAd, f6d, i0, i1, hm⟩ := hJ
  have i0 : 0 ≤ i := i0
  have i1 : i ≤ (p.ts.length : Int) := i1
  have hm : m = (p.ts.length - i).toNat := hm
  have qd6 := q6.keep f6d np9
  have pd6 := p46.keep f6d np3
  refine Cut_no ?_
  refine LdC_blk (pd6) rfl ?_
  refine Br_dec (fun g => ?_) (fun g => ?_)
  · have g : i < (p.ts.length : Int) := g
    have ix : 0 ≤ i ∧ i < (p.ts.length : Int) := ⟨i0, g⟩
    obtain ⟨t, hti⟩ : ∃ t, p.ts[i.toNat]? = some t := ⟨_, List.getElem?_eq_getElem (by omega)⟩
    obtain ⟨a, hai⟩ : ∃ a, at_[i.toNat]? = some a := ⟨_, List.getElem?_eq_getElem (by omega)⟩
    have htm := List.mem_of_getElem? hti
    have hsz := (hp.size htm).1
    rw [size_nat] at hsz
    have hBi := U4.fil.2 i.toNat a t hai hti
    obtain ⟨hSeg, _⟩ := hL.objs _ (List.mem_of_getElem? hBi)
    have hOw : ObjW (linW at_ t) t.refs.length := by
      have := objW_ok (rf := t.refs.map (phiA at_)) (dt := t.data) (by rw [List.length_map]; omega)
      rw [List.length_map] at this
      exact this
    have hoV : objV s.ws (a + 1) = (⟨1, (linW at_ t).length, t.refs.length, 0, 0⟩, 0) := objV_at hSeg hOw
    have hbd : ∀ a ∈ at_, 0 ≤ a ∧ a ≤ 4194304 := fun a ha => by
      obtain ⟨j, hj, e⟩ := List.getElem_of_mem ha
      obtain ⟨u, hu⟩ : ∃ u, p.ts[j]? = some u := ⟨_, List.getElem?_eq_getElem (by omega)⟩
      have h1 := B4.fit j a u (by rw [List.getElem?_eq_getElem hj, e]) hu
      have h2 := (hp.t u (List.mem_of_getElem? hu)).1
      have := hp.words
      omega
    have hab := hbd a (List.mem_of_getElem? hai)
    have e1 : IntKind.i64.wrap (i + 1) = i + 1 := wrap_i64 (by omega) (by omega)
    have eph : phiA at_ (IntKind.i64.wrap (i + 1)) = a + 1 := by
      rw [e1]
      exact phiA_get (by omega) (by rw [show (i + 1).toNat - 1 = i.toNat by omega]; exact hai)
    have hRef : ∀ w', Fr (· = q.ab) w6 w' → CallC Pr f_gleanerlaw14_Built_Ref [.agg #[ptr hb, .slice aa at_.length ac], .int .i64 (IntKind.i64.wrap (i + 1))] w' (fun v w'' => v = .int .u64 (a + 1) ∧ Fr No w' w'') := fun w' f => by
      have hI : Ints w' (.slice aa at_.length ac) at_ := B6.ints.keep f (fun k hk e => by
        have h1 := B6.zav k hk
        have h2 := HA6.zb
        have e : k = q.ab := e
        rw [e, h2] at h1
        cases h1)
      have := Ref_spec (hb := hb) (IntKind.i64.wrap (i + 1)) w' hI hbd (by omega) (by omega) (by omega)
      rw [eph] at this
      exact this
    have hObj : ∀ w' qq, HA w' z4 p.c hb q (s.setAcc qq) ar → CallC Pr f_heap_Heap_Object [ptr hb, .int .u64 (a + 1)] w' (fun v w'' => v = .tuple #[.agg (Hd.L ⟨1, (linW at_ t).length, t.refs.length, 0, 0⟩).toArray, .int .i64 0] ∧ (∃ q2, HA w'' z4 p.c hb q (s.setAcc q2) ar) ∧ Fr (· = q.ab) w' w'') := fun w' qq H => by
      have := Object_spec (a + 1) w' H (by omega)
      have e2 : objV (s.setAcc qq).ws (a + 1) = (⟨1, (linW at_ t).length, t.refs.length, 0, 0⟩, 0) := hoV
      rw [e2] at this
      exact this
    obtain ⟨hd, ehd⟩ : ∃ hd : Hd, hd = ⟨1, (linW at_ t).length, t.refs.length, 0, 0⟩ := ⟨_, rfl⟩
    rw [← ehd] at hObj
    have fin : ∀ {σ : Env} (pt : Nat) (w5 w6' : World) (qb : Int), wd.heap.size ≤ pt → HA w5 z4 p.c hb q (s.setAcc qb) ar → Fr (· = q.ab) wd w5 → Fr (· = pt) w5 w6' → Blk w6' pt t_api_Header hd.L → Sub [(1, ptr p3), (3, ptr p9), (8, .int .i64 n), (12, .int .i64 i), (13, ptr pt), (14, .int .i64 0)] σ →
        ∃ x : Nat, Sub [(1, ptr p3), (3, ptr p9), (8, .int .i64 n), (12, .int .i64 i), (13, ptr x), (14, .int .i64 0)] σ ∧ ∃ qe, HA w6' z4 p.c hb q (s.setAcc qe) ar ∧ Fr (· = q.ab) w6 w6' ∧ Blk w6' x t_api_Header hd.L :=
      fun pt w5 w6' qb h1 h2 h3 h4 h5 hs => by
        have := HAd.new (q := qb) h2 h3 h4 (fun k e => by have e : k = pt := e; omega)
        exact ⟨pt, hs, qb, this.1, fAB f6d this.2, h5⟩
    have Dd : Fr No wd wd.drew := Fr.drew wd
    have sdd := Dd.size
    have FN : ∀ {u v : World}, Fr (· = q.ab) wd u → Fr No u v → Fr (· = q.ab) wd v := fun f g => f.trans g (fun _ _ e => e) (fun _ _ e => e.elim)
    have FB : ∀ {u v : World}, Fr No wd u → Fr (· = q.ab) u v → Fr (· = q.ab) wd v := fun f g => f.trans g (fun _ _ e => e.elim) (fun _ _ e => e)
    have HQ : ∀ {w' : World}, Fr (· = q.ab) w6 w' → Blk w' p9 t_gleanerlaw14_Built [ptr hb, .slice aa at_.length ac] := fun f => q6.keep f np9
    refine Cut_no ?_
    refine AnyC_mid (α := Nat) (fun pt => [(1, ptr p3), (3, ptr p9), (8, .int .i64 n), (12, .int .i64 i), (13, ptr pt), (14, .int .i64 0)])
      (fun pt w' => ∃ qe, HA w' z4 p.c hb q (s.setAcc qe) ar ∧ Fr (· = q.ab) w6 w' ∧ Blk w' pt t_api_Header hd.L)
      (AnyC_plan T_ok mixed shpP (fun w' => Blk w' p9 t_gleanerlaw14_Built [ptr hb, .slice aa at_.length ac]) (by kernel_rfl) (by kernel_rfl) (qd6.keep (Fr.drew _) id) (Kp ?_)) (fun pt we hJ => Kp ?_)
    · refine LdS_of (fun w' hw => hw) rfl (Kp ?_)
      refine LdSN_of (vs := [ptr hb, .slice aa at_.length ac]) (fun w' hw => hw) rfl rfl (Kp ?_)
      refine ⟨Kp ?_, Kp ?_, trivial⟩
      · refine CallC_intro (hRef _ (fAN f6d Dd)) (fun v wx1 ⟨hv1, g1⟩ => ?_)
        subst hv1
        have G1 := Dd.no g1
        refine Sd_intro (HQ (fAN f6d G1)) (Kp ?_)
        refine ⟨Kp ?_, Kp ?_, trivial⟩
        · refine CallC_intro (hObj _ _ (HAd.no G1)) (fun v wx2 ⟨hv2, ⟨q2, H2⟩, g2⟩ => ?_)
          subst hv2
          have G2 := FB G1 g2
          refine Sd_intro (HQ (fAB f6d G2)) (Kp ?_)
          refine ⟨Kp ?_, trivial⟩
          have z2 := G2.size
          refine NewC_blk (fun pt wx3 e_pt b3 f3 s3 => ?_)
          have G3 := FN G2 f3
          refine Sd_intro (HQ (fAB f6d G3)) (Kp ?_)
          refine ⟨Kp ?_, trivial⟩
          refine StN_blk (b3) rfl (Nat.le_of_ble_eq_true rfl) (fun wx4 b4 f4 s4 => ?_)
          have G4 := G3.new f4 (fun _ _ e => e) (fun k e => by omega)
          refine Sd_intro (HQ (fAB f6d G4)) (Kp ?_)
          exact fin pt wx3 wx4 q2 (by omega) (H2.no f3) G3 f4 b4 ⟨rfl, rfl, rfl, rfl, rfl, rfl, trivial⟩
        · have z1 := G1.size
          refine NewC_blk (fun pt wx3 e_pt b3 f3 s3 => ?_)
          have G3 := G1.no f3
          refine Sd_intro (HQ (fAN f6d G3)) (Kp ?_)
          refine ⟨Kp ?_, trivial⟩
          refine CallC_intro (hObj _ _ (HAd.no G3)) (fun v wx2 ⟨hv2, ⟨q2, H2⟩, g2⟩ => ?_)
          subst hv2
          have G2 := FB G3 g2
          have b2 := b3.keep g2 (fun e => by have := HAd.a.lt; have e : pt = q.ab := e; omega)
          refine Sd_intro (HQ (fAB f6d G2)) (Kp ?_)
          refine ⟨Kp ?_, trivial⟩
          refine StN_blk (b2) rfl (Nat.le_of_ble_eq_true rfl) (fun wx4 b4 f4 s4 => ?_)
          have G4 := G2.new f4 (fun _ _ e => e) (fun k e => by omega)
          refine Sd_intro (HQ (fAB f6d G4)) (Kp ?_)
          exact fin pt wx2 wx4 q2 (by omega) H2 G2 f4 b4 ⟨rfl, rfl, rfl, rfl, rfl, rfl, trivial⟩
      · refine NewC_blk (fun pt wx3 e_pt b3 f3 s3 => ?_)
        have G3 := Dd.no f3
        refine Sd_intro (HQ (fAN f6d G3)) (Kp ?_)
        refine ⟨Kp ?_, trivial⟩
        refine CallC_intro (hRef _ (fAN f6d G3)) (fun v wx1 ⟨hv1, g1⟩ => ?_)
        subst hv1
        have G1 := G3.no g1
        refine Sd_intro (HQ (fAN f6d G1)) (Kp ?_)
        refine ⟨Kp ?_, trivial⟩
        refine CallC_intro (hObj _ _ (HAd.no G1)) (fun v wx2 ⟨hv2, ⟨q2, H2⟩, g2⟩ => ?_)
        subst hv2
        have G2 := FB G1 g2
        have b2 := (b3.keep g1 id).keep g2 (fun e => by have := HAd.a.lt; have e : pt = q.ab := e; omega)
        refine Sd_intro (HQ (fAB f6d G2)) (Kp ?_)
        refine ⟨Kp ?_, trivial⟩
        refine StN_blk (b2) rfl (Nat.le_of_ble_eq_true rfl) (fun wx4 b4 f4 s4 => ?_)
        have G4 := G2.new f4 (fun _ _ e => e) (fun k e => by omega)
        refine Sd_intro (HQ (fAB f6d G4)) (Kp ?_)
        exact fin pt wx2 wx4 q2 (by omega) H2 G2 f4 b4 ⟨rfl, rfl, rfl, rfl, rfl, rfl, trivial⟩
    obtain ⟨qe, HAe, f6e, bE⟩ := hJ
    subst ehd
    obtain ⟨tok, tx, ra, rc, da, dc, ea, htv, hcell⟩ := thing_at hTh hti
    subst ea
    have De : Fr No we we.drew := Fr.drew we
    have SE : ∀ {w' : World}, Fr No we w' → Blk w' pt t_api_Header (Hd.L ⟨1, (linW at_ t).length, t.refs.length, 0, 0⟩) ∧ Blk w' p3 t_gleanerref14_Plan (planL p (.slice (some tx) p.ts.length tc) (.slice ha p.hs.length hc)) ∧ ∀ (j : Nat) (u : Value), ([Value.int .i64 t.st, .slice ra t.refs.length rc, .slice da t.data.length dc])[j]? = some u → w'.cell? ((tx.add (i.toNat * 3)).add j) = some u :=
      fun f => ⟨bE.keep f id, p46.keep (fAN f6e f) np3, fun j u hj => cell_keep (hcell j u hj) (FA (fAN f6e f))⟩
    refine AnyC_plan T_ok mixed (planO [0,1,2,3,4,5,6,7,8,10,11,12,13,14,15,16,1009,17,1018,19]) ((fun w' => Blk w' pt t_api_Header (Hd.L ⟨1, (linW at_ t).length, t.refs.length, 0, 0⟩) ∧ Blk w' p3 t_gleanerref14_Plan (planL p (.slice (some tx) p.ts.length tc) (.slice ha p.hs.length hc)) ∧ ∀ (j : Nat) (u : Value), ([Value.int .i64 t.st, .slice ra t.refs.length rc, .slice da t.data.length dc])[j]? = some u → w'.cell? ((tx.add (i.toNat * 3)).add j) = some u)) (by kernel_rfl) (by kernel_rfl) ((SE De)) (Kp ?_)
    refine LdSN_of (vs := (Hd.L ⟨1, (linW at_ t).length, t.refs.length, 0, 0⟩)) (fun w' hw => hw.1) rfl rfl (Kp ?_)
    refine LdS_of (fun w' hw => hw.2.1) rfl (Kp ?_)
    refine Sd_intro ix (Kp ?_)
    refine LdSN_cells (vs := [.int .i64 t.st, .slice ra t.refs.length rc, .slice da t.data.length dc]) (fun w' hw j u hj => hw.2.2 j u hj) rfl (Kp ?_)
    refine LdS_of (fun w' hw => hw.2.1) rfl (Kp ?_)
    refine Sd_intro ix (Kp ?_)
    refine LdS_intro (v := .slice ra t.refs.length rc) (fun w' hw => hw.2.2 1 _ rfl) (Kp ?_)
    refine ⟨Kp ?_, trivial⟩
    refine CallC_intro (Size_len ra da rc dc _) (fun v wx ⟨hvx, fx⟩ => ?_)
    have esz : szW t = ((linW at_ t).length : Int) := by
      rw [szW_of (by rw [size_nat]; omega), size_nat, linW_len]
    rw [esz] at hvx
    subst hvx
    have Fx := De.no fx
    refine Sd_intro (SE Fx) (Kp ?_)
    refine ⟨?_, trivial⟩
    refine neSt2 (cs := (Hd.L ⟨1, (linW at_ t).length, t.refs.length, 0, 0⟩)) (ds := (Hd.L ⟨1, (linW at_ t).length, t.refs.length, 0, 0⟩)) (by kernel_rfl) (hd_refl ⟨1, (linW at_ t).length, t.refs.length, 0, 0⟩) (Kp ?_)
    refine Sd_intro (SE Fx) (Kp ?_)
    refine ⟨(p.ts.length - (i + 1)).toNat, _, by omega, ?_, i + 1, rfl, qe, HAe.no Fx, fAN f6e Fx, (show 0 ≤ i + 1 by omega), (show i + 1 ≤ (p.ts.length : Int) by omega), rfl⟩
    exact ⟨rfl, rfl, rfl, look_int rfl (wrap_i64 (by omega) (by omega)), trivial⟩
  have g : ¬ i < (p.ts.length : Int) := g
  refine LdC_blk (qd6) rfl ?_
  refine CallC_intro (Object_spec 0 wd HAd (by omega)) (fun v we ⟨hve, ⟨qe, HAe⟩, fe⟩ => ?_)
  have e0 : objV (s.setAcc qd).ws 0 = (hd0, 12) := rfl
  rw [e0] at hve
  subst hve
  have f6e := fAB f6d fe
  refine NewC_blk (fun p15 wf e_p15 qf ff sf => ?_)
  refine StN_blk (qf) rfl (Nat.le_of_ble_eq_true rfl) (fun wg qg fg sg => ?_)
  have fe2 : Fr No we wg := ff.new fg (fun _ _ e => e) (fun k e => by omega)
  have f6g := fAN f6e fe2
  have pg := p46.keep f6g np3
  refine LdC_blk (pg) rfl ?_
  refine Br_dt hn ?_
  exact ⟨rfl, FA f6g⟩
end Go.Proofs.YtdhbpklmkibmbaaGreat
