/- Layer 13's answer: the order and the shape of a graph. -/
import Derived.Test.YtdhbpklmkibmbaaGreatBuildX
namespace Go.Vc
open Go.Maps
/-- append, and what the row's old cells then hold. -/
theorem ApP {P : Program} {T : Tab} (hT : T.Ok P) {t ty e : Nat} {q : Rec} (ht : T.d t = .slice e) (hq : look T.recs e = some q) (hz : q.zero.length = q.size) (hs : 0 < q.size)
    {w : World} {base n bx ox m c te : Nat} {v : Value} {xs cs news : List Value} {K : Value → World → Prop} (own : w.ownsRow base e q.size v n xs) (hbase : base ≤ w.heap.size)
    (hx : Blk w bx te cs) (hcs : (cs.drop ox).take (m * q.size) = news) (hl : news.length = m * q.size) (h1 : news.all Value.oneCell' = true)
    (h63 : n + m ≤ 9223372036854775807) (hbytes : (n + m) * q.bytes ≤ 140737488355328)
    (k : ∀ v' w', w'.ownsRow base e q.size v' (n + m) (xs ++ news) → Fr (fun k => v.ownBlock = some k) w w' → (v'.ownBlock = v.ownBlock ∨ v'.ownBlock = some w.heap.size) →
      (∀ (g c' : Nat), v = .slice (some ⟨g, 0, none⟩) n c' → ∀ (j : Nat) (u : Value), xs[j]? = some u → w'.cell? ⟨g, j, none⟩ = some u) → K v' w') :
    RunC P (Builtin.append_ #[t, t] ty #[v, .slice (some ⟨bx, ox, none⟩) m c]) w K := by
  obtain ⟨_, i, zv, hi, his, hby, hzv, hc⟩ := hT.recs e q hq
  have hcell : ∀ j u, news[j]? = some u → w.cell? ((⟨bx, ox, none⟩ : Addr).add j) = some u := by
    intro j u hj
    rw [add_of]
    refine hx.cell ?_
    rw [← hcs, List.getElem?_take] at hj
    split at hj
    · rw [List.getElem?_drop] at hj; exact hj
    · cases hj
  have hzs : zv.cells.size = q.size := by rw [← Array.length_toList, hc, hz]
  obtain ⟨v', w', hr, ho, hg, _, hloc⟩ := run_append_own_at (P := P) w base t ty e i zv q.size q.bytes (und_slice hT ht) hi hzv his hby hzs hs v n xs own ⟨bx, ox, none⟩ m c news hl hcell (fun u hu => List.all_eq_true.1 h1 u hu) (by simpa [maxLen] using h63) hbytes hbase
  refine RunC_intro hr (k v' w' ho ⟨hg.os, hg.tape, hg.output, hg.size, fun j hj hn => hg.block j hj (fun e => hn e.symm)⟩ hloc fun g c' hv j u hj => ?_)
  subst hv
  have holds : ∀ j u, xs[j]? = some u → w.cell? ((⟨g, 0, none⟩ : Addr).add j) = some u := own.cells (g := g) rfl
  have hgl : g < w.heap.size := World.ownsRow.lt own g rfl |>.2
  rcases hloc with e1 | e1
  · have e1 : v'.ownBlock = some g := e1
    have hj' : (xs ++ news)[j]? = some u := by
      rw [List.getElem?_append_left (List.getElem?_eq_some_iff.1 hj).1]; exact hj
    obtain ⟨_, h | ⟨g', cap, cur, hv', _⟩⟩ := id ho
    · rw [h.1] at e1; cases e1
    · subst hv'
      have e1 : some g' = some g := e1
      injection e1 with e1
      subst e1
      have := ho.cells (g := g') rfl j u hj'
      rw [add_of, Nat.zero_add] at this
      exact this
  · by_cases hroom : n + m ≤ c'
    · exfalso
      obtain ⟨_, h | ⟨g', cap, cur, hv', _, hgb, _, hcm, hcs', _⟩⟩ := id own
      · cases h.1
      · injection hv' with a1 _ a3
        injection a1 with a1
        injection a1 with a1 _ _
        subst a1 a3
        have hfit : n * i.size + news.length ≤ cur.size := by rw [hl, hcs', ← his, ← Nat.add_mul]; exact Nat.mul_le_mul_right _ hroom
        have hr2 := run_append_room (P := P) w t ty e i (und_slice hT ht) hi g n c' cur hgb ⟨bx, ox, none⟩ m c news (by rw [his]; exact hl) hcell (fun u hu => List.all_eq_true.1 h1 u hu) hroom hfit
        rw [hr] at hr2
        injection hr2 with b1 b2
        rw [b1] at e1
        have e1 : some g = some w.heap.size := e1
        injection e1 with e1
        omega
    · have hr2 := run_append_grow (P := P) w t ty e i zv (und_slice hT ht) hi hzv ⟨g, 0, none⟩ n c' xs (by rw [his]; exact own.1) holds ⟨bx, ox, none⟩ m c news (by rw [his]; exact hl) hcell (by omega) (by omega) (growslice_fits (by omega) (by rw [hby]; exact hbytes))
      rw [hr] at hr2
      injection hr2 with b1 b2
      rw [b2]
      have h3 := holds j u hj
      rw [add_of, Nat.zero_add] at h3
      unfold World.cell? at h3 ⊢
      have h4 : (w.drew.alloc (Obj.cells (xs.toArray ++ news.toArray ++ Builtin.zeroCells zv.cells (grownCap w (n + m) c' e - (n + m))) e)).heap[g]? = w.heap[g]? := heap_alloc_old w.drew _ hgl
      rw [h4]; exact h3
end Go.Vc
namespace Go.Proofs.YtdhbpklmkibmbaaGreat
open Go.Vc

/-- Numbers by references. -/
def nl (N : Nat) (O : List Int) : List Int := (List.range (N + 1)).map fun (r : Nat) => if (r : Int) ∈ O then ((O.idxOf (r : Int) : Nat) : Int) + 1 else 0
theorem nl_len (N : Nat) (O : List Int) : (nl N O).length = N + 1 := by simp [nl]
theorem nl_get {N : Nat} {O : List Int} {r : Nat} (h : r ≤ N) : (nl N O)[r]? = some (if (r : Int) ∈ O then ((O.idxOf (r : Int) : Nat) : Int) + 1 else 0) := by
  unfold nl
  rw [List.getElem?_map, List.getElem?_range (by omega)]; rfl
theorem nl_set {N : Nat} {O : List Int} {r : Int} (hr : r ∉ O) (h0 : 1 ≤ r) (_h1 : r ≤ N) : (nl N O).set r.toNat ((O.length : Int) + 1) = nl N (O ++ [r]) := by
  apply List.ext_getElem?
  intro k
  by_cases hk : k ≤ N
  · by_cases e : r.toNat = k
    · rw [e, List.getElem?_set_self (by rw [nl_len]; omega), nl_get hk]
      have ek : (k : Int) = r := by omega
      rw [ek, if_pos (List.mem_append_right _ List.mem_cons_self)]
      have := num_new (O := O) (r := r) (not_or.2 ⟨by omega, hr⟩)
      unfold num at this
      rw [if_neg (by omega)] at this
      rw [this]
    · rw [List.getElem?_set_ne e, nl_get hk, nl_get hk]
      have ek : (k : Int) ≠ r := by omega
      by_cases q : (k : Int) ∈ O
      · rw [if_pos q, if_pos (List.mem_append_left _ q), idxOf_app q]
      · rw [if_neg q, if_neg (fun h => (List.mem_append.1 h).elim q (fun h => ek (List.mem_singleton.1 h)))]
  · rw [List.getElem?_eq_none (by rw [List.length_set, nl_len]; omega), List.getElem?_eq_none (by rw [nl_len]; omega)]
/-- What an order is made of. -/
structure OrdIn (N : Nat) (O : List Int) : Prop where
  inn : ∀ r ∈ O, 1 ≤ r ∧ r ≤ N
  nd : O.Nodup
theorem OrdIn.len {N : Nat} {O : List Int} (h : OrdIn N O) : O.length ≤ N := by
  have h1 : ∀ r ∈ O, r ∈ (List.range N).map fun k : Nat => (k : Int) + 1 := fun r hr => by
    have := h.inn r hr
    exact List.mem_map.2 ⟨r.toNat - 1, List.mem_range.2 (by omega), by omega⟩
  have := sub_len h.nd h1
  simpa using this
theorem OrdIn.meet {N : Nat} {O : List Int} (h : OrdIn N O) {l : List Int} (hl : ∀ r ∈ l, 0 ≤ r ∧ r ≤ N) : OrdIn N (meetL O l) :=
  ⟨fun r hr => by
    rcases meetL_mem.1 hr with h1 | ⟨h1, h2⟩
    · exact h.inn r h1
    · have := hl r h1; omega, meetL_nodup h.nd⟩
theorem uc_at {w : World} {a : Option Addr} {n c : Nat} {l : List Int} (h : UC w (.slice a n c) l) {i : Nat} {r : Int} (hi : l[i]? = some r) : ∃ x, a = some x ∧ w.cell? (x.add i) = some (.int .u64 r) := by
  obtain ⟨a', c', e, h⟩ := h
  obtain ⟨x, hx, hc⟩ := h i r hi
  injection e with e1
  exact ⟨x, e1.trans hx, hc⟩
theorem meetL_take {O l : List Int} {i : Nat} {r : Int} (h : l[i]? = some r) : meetL O (l.take (i + 1)) = meet1 (meetL O (l.take i)) r := by
  rw [List.take_add_one, h]
  unfold meetL
  rw [List.foldl_append]; rfl
theorem cell_keepF {w w' : World} {F : Nat → Prop} {x : Addr} {v : Value} (h : w.cell? x = some v) (f : Fr F w w') (hn : ¬ F x.block) : w'.cell? x = some v := by
  have hb := World.block_lt_of_cell? w _ h
  unfold World.cell? at h ⊢
  rw [f.blk _ hb hn]; exact h
/-- A row's cells stand. -/
def Stands (w : World) (lv : Value) (O : List Int) : Prop := ∀ (g c' : Nat), lv = .slice (some ⟨g, 0, none⟩) O.length c' → ∀ (j : Nat) (q : Int), O[j]? = some q → w.cell? ⟨g, j, none⟩ = some (.int .i64 q)
theorem own_stands {w : World} {base : Nat} {lv : Value} {O : List Int} (h : Own w base lv O) : Stands w lv O := fun g c' e j q hj => by
  subst e
  have := World.ownsRow.cells (show w.ownsRow base t_int 1 _ O.length (ints O) from h) (g := g) rfl j (.int .i64 q) (ints_get? hj)
  rw [add_of, Nat.zero_add] at this
  exact this
theorem meet_spec {w0 w : World} {lv l : Value} {nb N : Nat} {O L : List Int} (F0 : Fr No w0 w) (hl : UC w0 l L) (own : Own w w0.heap.size lv O) (hn : Blk w nb t_uint64 (u64i (nl N O))) (hnb : w0.heap.size ≤ nb) (hO : OrdIn N O) (hL : ∀ r ∈ L, 0 ≤ r ∧ r ≤ N) (hN : N ≤ 1000000) (hLl : (L.length : Int) ≤ 1000000000) :
    CallC Pr f_gleanerref13_meet [lv, .slice (some ⟨nb, 0, none⟩) (N + 1) (N + 1), l] w (fun v w' => Own w' w0.heap.size v (meetL O L) ∧ Blk w' nb t_uint64 (u64i (nl N (meetL O L))) ∧ Fr No w0 w' ∧ Stands w' lv O) := by
  obtain ⟨la, lc, rfl, _⟩ := id hl
  refine call_sound T_ok fun_gleanerref13_meet rfl (by kernel_rfl) rfl (Kp ?_)
  refine LoopC_intro (α := Value × Int) (fun x => [(0, x.1), (1, .slice (some ⟨nb, 0, none⟩) (N + 1) (N + 1)), (2, .slice la L.length lc), (7, .int .i64 x.2)])
    (fun m x w' => Own w' w0.heap.size x.1 (meetL O (L.take x.2.toNat)) ∧ Blk w' nb t_uint64 (u64i (nl N (meetL O (L.take x.2.toNat)))) ∧ Fr No w0 w' ∧ Stands w' lv O ∧ 0 ≤ x.2 ∧ x.2 ≤ L.length ∧ m = (L.length - x.2).toNat)
    (L.length - 0 : Int).toNat (lv, 0) ⟨rfl, rfl, rfl, rfl, trivial⟩ ⟨own, hn, F0, own_stands own, Int.le_refl _, (show (0 : Int) ≤ L.length by omega), rfl⟩ (fun m x w1 hJ => Kp ?_)
  obtain ⟨lv1, i⟩ := x
  obtain ⟨own1, hn1, F1, S1, i0, i1, hm⟩ := hJ
  have own1 : Own w1 w0.heap.size lv1 (meetL O (L.take i.toNat)) := own1
  have hn1 : Blk w1 nb t_uint64 (u64i (nl N (meetL O (L.take i.toNat)))) := hn1
  have i0 : 0 ≤ i := i0
  have i1 : i ≤ (L.length : Int) := i1
  have hm : m = (L.length - i).toNat := hm
  refine Br_dec (fun g => ?_) (fun g => ?_)
  rotate_left
  · have g : ¬ i < (L.length : Int) := g
    rw [List.take_of_length_le (by omega)] at own1 hn1
    exact ⟨own1, hn1, F1, S1⟩
  have g : i < (L.length : Int) := g
  obtain ⟨r, hr⟩ : ∃ r, L[i.toNat]? = some r := ⟨_, List.getElem?_eq_getElem (by omega)⟩
  have hrb := hL r (List.mem_of_getElem? hr)
  obtain ⟨lx, rfl, hc⟩ := uc_at hl hr
  have hc1 := cell_keep hc F1
  have hOi : OrdIn N (meetL O (L.take i.toNat)) := hO.meet fun q hq => hL q (List.mem_of_mem_take hq)
  have hOl := hOi.len
  have ej : (i + 1).toNat = i.toNat + 1 := by omega
  have js : (L.length - (i + 1)).toNat < m ∧ 0 ≤ i + 1 ∧ i + 1 ≤ (L.length : Int) := by omega
  have wj : IntKind.i64.wrap (i + 1) = i + 1 := wrap_i64 (by omega) (by omega)
  have ix : 0 ≤ i ∧ i < (L.length : Int) := ⟨i0, g⟩
  have st := meetL_take (O := O) hr
  rw [← ej] at st
  refine Sd_intro ix (Kp ?_)
  refine LdC_intro (v := .int .u64 r) (by rw [Nat.mul_one]; exact hc1) (Kp ?_)
  refine Br_ndec (fun g1 => ?_) (fun g1 => ?_)
  rotate_left
  · have g1 : r = 0 := g1
    have e1 : meet1 (meetL O (L.take i.toNat)) r = meetL O (L.take i.toNat) := by unfold meet1; rw [if_pos (.inl g1)]
    rw [e1] at st
    refine ⟨(L.length - (i + 1)).toNat, _, js.1, ?_, (lv1, i + 1), rfl, (show Own w1 _ lv1 (meetL O (L.take (i + 1).toNat)) by rw [st]; exact own1), (show Blk w1 nb t_uint64 (u64i (nl N (meetL O (L.take (i + 1).toNat)))) by rw [st]; exact hn1), F1, S1, js.2.1, js.2.2, rfl⟩
    exact ⟨rfl, rfl, rfl, look_int rfl wj, trivial⟩
  have g1 : ¬ r = 0 := g1
  refine Sd_intro ix (Kp ?_)
  refine LdC_intro (v := .int .u64 r) (by rw [Nat.mul_one]; exact hc1) (Kp ?_)
  refine Sd_intro (show 0 ≤ r ∧ r < ((N + 1 : Nat) : Int) by omega) (Kp ?_)
  have hng := nl_get (N := N) (O := meetL O (L.take i.toNat)) (r := r.toNat) (by omega)
  rw [show ((r.toNat : Nat) : Int) = r by omega] at hng
  refine LdC_idx hn1 (by rw [Nat.mul_one, Nat.zero_add]; exact u64i_get? hng) (Kp ?_)
  have nob : ∀ k, lv1.ownBlock = some k → k ≠ nb := fun k hk e => by
    obtain ⟨cur, hb, _⟩ := own_blk own1 k hk
    rw [e] at hb
    have := (hb.inj hn1).2
    cases this
  refine Br_dec (fun g2 => ?_) (fun g2 => ?_)
  rotate_left
  · have hin : r ∈ meetL O (L.take i.toNat) := by
      apply Classical.byContradiction
      intro h
      exact g2 (if_neg h)
    have e1 : meet1 (meetL O (L.take i.toNat)) r = meetL O (L.take i.toNat) := by unfold meet1; rw [if_pos (.inr hin)]
    rw [e1] at st
    refine ⟨(L.length - (i + 1)).toNat, _, js.1, ?_, (lv1, i + 1), rfl, (show Own w1 _ lv1 (meetL O (L.take (i + 1).toNat)) by rw [st]; exact own1), (show Blk w1 nb t_uint64 (u64i (nl N (meetL O (L.take (i + 1).toNat)))) by rw [st]; exact hn1), F1, S1, js.2.1, js.2.2, rfl⟩
    exact ⟨rfl, rfl, rfl, look_int rfl wj, trivial⟩
  have hnin : r ∉ meetL O (L.take i.toNat) := fun h => by
    have g2 : (if r ∈ meetL O (L.take i.toNat) then (((meetL O (L.take i.toNat)).idxOf r : Nat) : Int) + 1 else 0) = 0 := g2
    rw [if_pos h] at g2
    omega
  have e1 : meet1 (meetL O (L.take i.toNat)) r = meetL O (L.take i.toNat) ++ [r] := by unfold meet1; rw [if_neg (not_or.2 ⟨g1, hnin⟩)]
  rw [e1] at st
  have er : IntKind.i64.wrap r = r := wrap_i64 (by omega) (by omega)
  refine Sd_intro ix (Kp ?_)
  refine LdC_intro (v := .int .u64 r) (by rw [Nat.mul_one]; exact hc1) (Kp ?_)
  refine NewC_blk (fun pa wa e_pa qa fa sa => ?_)
  have qa : Blk wa pa t_int [.int .i64 r] := by rw [← er]; exact qa
  have hsz1 := F1.size
  have hsza := fa.size
  refine ApP T_ok (e := t_int) rfl rfl rfl (by decide) (own_keepV (show w1.ownsRow w0.heap.size t_int 1 lv1 (meetL O (L.take i.toNat)).length (ints (meetL O (L.take i.toNat))) from own1) fa (fun _ _ => id)) (by omega) qa (news := [.int .i64 r]) rfl rfl rfl (by omega) (show ((meetL O (L.take i.toNat)).length + 1) * 8 ≤ 140737488355328 by omega) (fun v' wb ob fb lb pers => ?_)
  have hnb1 := (hn1.keep fa id).keep fb (fun h => nob nb h rfl)
  have hcb := cell_keep hc1 fa
  have hcb2 : wb.cell? (lx.add i.toNat) = some (.int .u64 r) := cell_keep hc (F1.trans (fa.noL fb) (fun _ _ e => e) (fun k hk e => by
    have := own1
    have h2 := World.ownsRow.lt (show w1.ownsRow w0.heap.size t_int 1 lv1 (meetL O (L.take i.toNat)).length (ints (meetL O (L.take i.toNat))) from own1) k e
    omega))
  obtain ⟨va, vc, ev⟩ := own_slice ob
  subst ev
  refine Sd_intro ix (Kp ?_)
  refine LdC_intro (v := .int .u64 r) (by rw [Nat.mul_one]; exact hcb2) (Kp ?_)
  refine Sd_intro (show 0 ≤ r ∧ r < ((N + 1 : Nat) : Int) by omega) (Kp ?_)
  refine StC_idx hnb1 rfl (by rw [Nat.mul_one, Nat.zero_add]; exact u64i_get? hng) (fun wc hnc fc sc => ?_)
  have eu : IntKind.u64.wrap ((((meetL O (L.take i.toNat)).length + 1 : Nat)) : Int) = ((meetL O (L.take i.toNat)).length : Int) + 1 := by
    rw [wrap_u64 (by omega) (by omega)]; omega
  have hnc : Blk wc nb t_uint64 (u64i (nl N (meetL O (L.take i.toNat) ++ [r]))) := by
    rw [← nl_set hnin (by omega) hrb.2, ← u64i_set, ← eu]
    rw [Nat.mul_one, Nat.zero_add] at hnc
    exact hnc
  have ownc : Own wc w0.heap.size (.slice va ((meetL O (L.take i.toNat)).length + 1) vc) (meetL O (L.take i.toNat) ++ [r]) := by
    have e : ints (meetL O (L.take i.toNat) ++ [r]) = ints (meetL O (L.take i.toNat)) ++ [.int .i64 r] := by simp [ints]
    unfold Own
    rw [e, List.length_append]
    exact own_keepV ob fc (fun k hk e => by
      have e : k = nb := e
      obtain ⟨cur, hb, _⟩ := own_blk ob k hk
      rw [e] at hb
      have := (hb.inj hnb1).2
      cases this)
  have Fc : Fr No w0 wc := (F1.trans ((fa.noL fb)) (fun _ _ e => e) (fun k hk e => by
    have h2 := World.ownsRow.lt (show w1.ownsRow w0.heap.size t_int 1 lv1 (meetL O (L.take i.toNat)).length (ints (meetL O (L.take i.toNat))) from own1) k e
    omega)).trans fc (fun _ _ e => e) (fun k hk e => by have e : k = nb := e; omega)
  have Sc : Stands wc lv O := fun g c' e j q hj => by
    have hg := S1 g c' e j q hj
    have ngb : g ≠ nb := fun e2 => by
      subst e2
      subst e
      obtain ⟨cur, hb, _⟩ := own_blk (show w.ownsRow w0.heap.size t_int 1 _ O.length (ints O) from own) g rfl
      have := (hb.inj hn).2
      cases this
    have hb : wb.cell? ⟨g, j, none⟩ = some (.int .i64 q) := by
      by_cases e2 : lv1.ownBlock = some g
      · rcases own_cases (show w1.ownsRow w0.heap.size t_int 1 lv1 (meetL O (L.take i.toNat)).length (ints (meetL O (L.take i.toNat))) from own1) with ⟨e3, _⟩ | ⟨g', cap, cur, e3, _⟩
        · rw [e3] at e2; cases e2
        · have e4 : g' = g := by
            rw [e3] at e2
            injection e2
          rw [e4] at e3
          refine pers g cap e3 j _ (ints_get? ?_)
          obtain ⟨tl, htl⟩ := meetL_pre (L.take i.toNat) O
          rw [← htl, List.getElem?_append_left (List.getElem?_eq_some_iff.1 hj).1]; exact hj
      · exact cell_keepF (cell_keep hg fa) fb e2
    exact cell_keepF hb fc ngb
  refine ⟨(L.length - (i + 1)).toNat, _, js.1, ?_, (.slice va ((meetL O (L.take i.toNat)).length + 1) vc, i + 1), rfl, (show Own wc _ _ (meetL O (L.take (i + 1).toNat)) by rw [st]; exact ownc), (show Blk wc nb t_uint64 (u64i (nl N (meetL O (L.take (i + 1).toNat)))) by rw [st]; exact hnc), Fc, Sc, js.2.1, js.2.2, rfl⟩
  exact ⟨rfl, rfl, rfl, look_int rfl wj, trivial⟩
/-- A graph, to be read: its stacks, its objects. -/
structure GrR (w : World) (gb : Nat) (ss : List (List Int)) (os : List GObj) : Prop where
  tab : ∃ mx sa sc oa oc dr, Blk w gb t_gleanerref13_Graph [mx, .slice oa os.length oc, .slice sa ss.length sc, dr] ∧
    (∀ (t : Nat) (l : List Int), ss[t]? = some l → ∃ x b bd sv, sa = some x ∧ w.cell? (x.add t) = some (ptr b) ∧ Blk w b t_gleanerref12_Stack [bd, sv] ∧ UC w sv l) ∧
    (∀ (j : Nat) (o : GObj), os[j]? = some o → ∃ x rv dv, oa = some x ∧ (∀ (k : Nat) (u : Value), [rv, dv][k]? = some u → w.cell? ((x.add (j * 2)).add k) = some u) ∧ UC w rv o.1 ∧ UC w dv o.2)
theorem GrR.keep {w w' : World} {gb : Nat} {ss : List (List Int)} {os : List GObj} (h : GrR w gb ss os) (f : Fr No w w') : GrR w' gb ss os := by
  obtain ⟨mx, sa, sc, oa, oc, dr, h1, h2, h3⟩ := h.tab
  refine ⟨mx, sa, sc, oa, oc, dr, h1.keep f id, fun t l hl => ?_, fun j o hj => ?_⟩
  · obtain ⟨x, b, bd, sv, e, h4, h5, h6⟩ := h2 t l hl
    exact ⟨x, b, bd, sv, e, cell_keep h4 f, h5.keep f id, h6.keep f⟩
  · obtain ⟨x, rv, dv, e, h4, h5, h6⟩ := h3 j o hj
    exact ⟨x, rv, dv, e, fun k u hk => cell_keep (h4 k u hk) f, h5.keep f, h6.keep f⟩
/-- An object of a graph by its reference. -/
def gO (os : List GObj) (r : Int) : GObj := if 1 ≤ r then (os[r.toNat - 1]?).getD ([], []) else ([], [])
theorem gO_get {os : List GObj} {r : Int} (h : 1 ≤ r) {o : GObj} (ho : os[r.toNat - 1]? = some o) : gO os r = o := by
  unfold gO
  rw [if_pos h, ho]; rfl
/-- References lead to objects. -/
structure GrIn (ss : List (List Int)) (os : List GObj) : Prop where
  n : os.length ≤ 1000
  sl : ss.length ≤ 64
  s : ∀ l ∈ ss, (l.length : Int) ≤ 64 ∧ ∀ r ∈ l, 0 ≤ r ∧ r ≤ os.length
  o : ∀ o ∈ os, (o.1.length : Int) ≤ 1048576 ∧ (o.2.length : Int) ≤ 1048576 ∧ ∀ r ∈ o.1, 0 ≤ r ∧ r ≤ os.length
theorem meetS_take {ss : List (List Int)} {i : Nat} {l : List Int} (h : ss[i]? = some l) : meetS [] (ss.take (i + 1)) = meetL (meetS [] (ss.take i)) l := by
  rw [List.take_add_one, h]
  unfold meetS
  rw [List.foldl_append]; rfl
theorem ordIn_S {N : Nat} {ss : List (List Int)} (h : ∀ l ∈ ss, ∀ r ∈ l, 0 ≤ r ∧ r ≤ (N : Int)) : ∀ i, OrdIn N (meetS [] (ss.take i)) := by
  intro i
  refine ⟨fun r hr => ?_, meetS_nodup List.nodup_nil⟩
  rcases meetS_mem.1 hr with h1 | ⟨⟨l, hl, h1⟩, h2⟩
  · cases h1
  · have := h l (List.mem_of_mem_take hl) r h1
    omega
theorem nl_nil (N : Nat) : nl N [] = List.replicate (N + 1) 0 := by
  apply List.ext_getElem?
  intro k
  by_cases hk : k ≤ N
  · rw [nl_get hk, if_neg (by simp), List.getElem?_replicate, if_pos (by omega)]
  · rw [List.getElem?_eq_none (by rw [nl_len]; omega), List.getElem?_eq_none (by simp; omega)]
set_option maxHeartbeats 1000000 in
theorem order_spec {gb : Nat} {ss : List (List Int)} {os : List GObj} (w : World) (h : GrR w gb ss os) (hi : GrIn ss os) :
    CallC Pr f_gleanerref13_Graph_order [ptr gb] w (fun v w' => ∃ lv nb, v = .tuple #[lv, .slice (some ⟨nb, 0, none⟩) (os.length + 1) (os.length + 1)] ∧ Own w' w.heap.size lv (orderN (gO os) ss os.length) ∧ OrdIn os.length (orderN (gO os) ss os.length) ∧
      Blk w' nb t_uint64 (u64i (nl os.length (orderN (gO os) ss os.length))) ∧ w.heap.size ≤ nb ∧ Fr No w w') := by
  obtain ⟨mx, sa, sc, oa, oc, dr, hT, hS, hO⟩ := h.tab
  have hn := hi.n
  refine callU_sound T_ok fun_gleanerref13_Graph_order rfl (by kernel_rfl) rfl (Kp ?_)
  refine LdC_blk (hT) rfl ?_
  have en : IntKind.i64.wrap ((os.length : Int) + 1) = (os.length : Int) + 1 := wrap_i64 (by omega) (by omega)
  have enat : (IntKind.i64.wrap ((os.length : Int) + 1)).toNat = os.length + 1 := by rw [en]; omega
  refine MkC T_ok (z := .int .u64 0) rfl rfl rfl rfl (n := IntKind.i64.wrap ((os.length : Int) + 1)) (by rw [en]; omega) (by rw [en]; omega) (show (8 : Int) * IntKind.i64.wrap ((os.length : Int) + 1) ≤ _ by rw [en]; omega) (fun nb w1 hnb q1 f1 s1 => ?_)
  have q1 : Blk w1 nb t_uint64 (u64i (nl os.length [])) := by
    rw [nl_nil, ← u64i_rep, ← enat]; exact q1
  refine Cut (α := Value) (fun lv => [(0, ptr gb), (4, lv), (5, .slice (some ⟨nb, 0, none⟩) (os.length + 1) (os.length + 1))])
    (fun lv w' => Own w' w.heap.size lv (meetS [] ss) ∧ Blk w' nb t_uint64 (u64i (nl os.length (meetS [] ss))) ∧ Fr No w w') ?_ (fun lv w2 hJ => Kp ?_)
  · refine LoopC_intro (α := Value × Int) (fun x => [(0, ptr gb), (4, x.1), (5, .slice (some ⟨nb, 0, none⟩) (os.length + 1) (os.length + 1)), (6, .int .i64 x.2)])
      (fun m x w' => Own w' w.heap.size x.1 (meetS [] (ss.take x.2.toNat)) ∧ Blk w' nb t_uint64 (u64i (nl os.length (meetS [] (ss.take x.2.toNat)))) ∧ Fr No w w' ∧ 0 ≤ x.2 ∧ x.2 ≤ ss.length ∧ m = (ss.length - x.2).toNat)
      (ss.length - 0 : Int).toNat (.slice none 0 0, 0) ⟨rfl, rfl, (congrArg (fun n => some (Value.slice (some ⟨nb, 0, none⟩) n n)) enat), rfl, trivial⟩ ⟨Own.nil _ _, q1, f1, Int.le_refl _, (show (0 : Int) ≤ ss.length by omega), rfl⟩ (fun m x w2 hJ => Kp ?_)
    obtain ⟨lv, i⟩ := x
    obtain ⟨own2, q2, F2, i0, i1, hm⟩ := hJ
    have own2 : Own w2 w.heap.size lv (meetS [] (ss.take i.toNat)) := own2
    have q2 : Blk w2 nb t_uint64 (u64i (nl os.length (meetS [] (ss.take i.toNat)))) := q2
    have i0 : 0 ≤ i := i0
    have i1 : i ≤ (ss.length : Int) := i1
    have hm : m = (ss.length - i).toNat := hm
    refine Cut_no ?_
    refine LdC_blk (hT.keep F2 id) rfl ?_
    refine Br_dec (fun g => ?_) (fun g => ?_)
    rotate_left
    · have g : ¬ i < (ss.length : Int) := g
      rw [List.take_of_length_le (by omega)] at own2 q2
      exact ⟨lv, ⟨rfl, rfl, rfl, trivial⟩, own2, q2, F2⟩
    have g : i < (ss.length : Int) := g
    obtain ⟨l, hl⟩ : ∃ l, ss[i.toNat]? = some l := ⟨_, List.getElem?_eq_getElem (by omega)⟩
    have hlb := hi.s l (List.mem_of_getElem? hl)
    obtain ⟨x, b, bd, sv, rfl, hc, hB, hU⟩ := hS i.toNat l hl
    refine Cut_no ?_
    refine LdC_blk (hT.keep F2 id) rfl ?_
    refine Sd_intro (show 0 ≤ i ∧ i < (ss.length : Int) from ⟨i0, g⟩) (Kp ?_)
    refine LdC_intro (v := ptr b) (by rw [Nat.mul_one]; exact cell_keep hc F2) (Kp ?_)
    refine LdC_blk (hB.keep F2 id) rfl ?_
    refine CallC_intro (meet_spec F2 hU own2 q2 (by omega) (ordIn_S (fun l hl => (hi.s l hl).2) _) hlb.2 (by omega) (by omega)) (fun v w3 ⟨own3, q3, F3, _⟩ => ?_)
    rw [← meetS_take hl] at own3 q3
    have ej : (i + 1).toNat = i.toNat + 1 := by omega
    refine ⟨(ss.length - (i + 1)).toNat, _, by omega, ?_, (v, i + 1), rfl, (show Own w3 _ v (meetS [] (ss.take (i + 1).toNat)) by rw [ej]; exact own3), (show Blk w3 nb t_uint64 (u64i (nl os.length (meetS [] (ss.take (i + 1).toNat)))) by rw [ej]; exact q3), F3, (show 0 ≤ i + 1 by omega), (show i + 1 ≤ (ss.length : Int) by omega), rfl⟩
    have hsl := hi.sl
    exact ⟨rfl, rfl, rfl, look_int rfl (wrap_i64 (by omega) (by omega)), trivial⟩
  obtain ⟨own2, q2, F2⟩ := hJ
  have hO0 : OrdIn os.length (meetS [] ss) := by
    have := ordIn_S (N := os.length) (ss := ss) (fun l hl => (hi.s l hl).2) ss.length
    rw [List.take_length] at this
    exact this
  obtain ⟨FO, eFO⟩ : ∃ FO, FO = orderN (gO os) ss os.length := ⟨_, rfl⟩
  rw [← eFO]
  refine Cut_no ?_
  refine LoopC_intro (α := Value × Int) (fun x => [(0, ptr gb), (4, x.1), (5, .slice (some ⟨nb, 0, none⟩) (os.length + 1) (os.length + 1)), (7, .int .i64 x.2)])
    (fun m x w' => ∃ O', Own w' w.heap.size x.1 O' ∧ Blk w' nb t_uint64 (u64i (nl os.length O')) ∧ OrdIn os.length O' ∧ x.2 ≤ O'.length ∧ bfsF (gO os) (os.length - x.2.toNat) x.2.toNat O' = FO ∧ Fr No w w' ∧ 0 ≤ x.2 ∧ m = (os.length - x.2).toNat)
    (os.length - 0 : Int).toNat (lv, 0) ⟨rfl, rfl, rfl, rfl, trivial⟩ ⟨_, own2, q2, hO0, (show (0 : Int) ≤ _ by omega), (show bfsF (gO os) (os.length - 0) 0 (meetS [] ss) = FO by rw [eFO]; rfl), F2, Int.le_refl _, rfl⟩ (fun m x w3 hJ => Kp ?_)
  obtain ⟨lv, k⟩ := x
  obtain ⟨O', own3, q3, hO3, hk, hb, F3, k0, hm⟩ := hJ
  have own3 : Own w3 w.heap.size lv O' := own3
  have hk : k ≤ (O'.length : Int) := hk
  have hb : bfsF (gO os) (os.length - k.toNat) k.toNat O' = FO := hb
  have k0 : 0 ≤ k := k0
  have hm : m = (os.length - k).toNat := hm
  have hOl := hO3.len
  obtain ⟨la, lc, el⟩ := own_slice own3
  subst el
  refine Cut_no ?_
  refine Br_dec (fun g => ?_) (fun g => ?_)
  rotate_left
  · have g : ¬ k < (O'.length : Int) := g
    have e : FO = O' := by
      rw [← hb]
      cases hn' : os.length - k.toNat with
      | zero => rfl
      | succ n =>
        unfold bfsF
        rw [List.getElem?_eq_none (by omega)]
    subst e
    exact ⟨_, nb, rfl, own3, hO3, q3, by omega, F3⟩
  have g : k < (O'.length : Int) := g
  obtain ⟨r, hr⟩ : ∃ r, O'[k.toNat]? = some r := ⟨_, List.getElem?_eq_getElem (by omega)⟩
  have hrb := hO3.inn r (List.mem_of_getElem? hr)
  obtain ⟨o, ho⟩ : ∃ o, os[r.toNat - 1]? = some o := ⟨_, List.getElem?_eq_getElem (by omega)⟩
  have hob := hi.o o (List.mem_of_getElem? ho)
  have hstep : bfsF (gO os) (os.length - (k + 1).toNat) (k + 1).toNat (meetL O' o.1) = FO := by
    rw [← hb]
    obtain ⟨n, hn'⟩ : ∃ n, os.length - k.toNat = n + 1 := ⟨os.length - k.toNat - 1, by omega⟩
    rw [hn', show os.length - (k + 1).toNat = n by omega, show (k + 1).toNat = k.toNat + 1 by omega]
    show _ = (match O'[k.toNat]? with | some r => bfsF (gO os) n (k.toNat + 1) (meetL O' (gO os r).1) | none => O')
    rw [hr]
    dsimp only
    rw [gO_get hrb.1 ho]
  obtain ⟨x, rv, dv, rfl, hcell, hU, _⟩ := hO (r.toNat - 1) o ho
  obtain ⟨ra, rc, rfl, _⟩ := id hU
  rcases own_cases (show w3.ownsRow w.heap.size t_int 1 _ O'.length (ints O') from own3) with ⟨_, h0, _⟩ | ⟨gg, cap, cur, e3, hgb, hgB, hgt, _⟩
  · omega
  injection e3 with e3 _ e4
  subst e3 e4
  have hck : w3.cell? ⟨gg, k.toNat, none⟩ = some (.int .i64 r) := own_stands own3 gg lc rfl k.toNat r hr
  have e1 : IntKind.i64.wrap (r - 1) = r - 1 := wrap_i64 (by omega) (by omega)
  have hT3 := hT.keep F3 id
  have hrv : ∀ w', Fr No w w' → w'.cell? (x.add ((r.toNat - 1) * 2)) = some (.slice ra o.1.length rc) := fun w' f => by
    have := cell_keep (hcell 0 _ rfl) f
    have e : (x.add ((r.toNat - 1) * 2)).add 0 = x.add ((r.toNat - 1) * 2) := by unfold Addr.add; rw [if_pos rfl]
    rw [e] at this
    exact this
  refine Cut_no ?_
  refine AnyC_plan T_ok mixed (planO [0,1,2,3,4,5,6,7,8,9,10,11,12,13,1014,15]) ((fun w' => Blk w' gb t_gleanerref13_Graph [mx, .slice (some x) os.length oc, .slice sa ss.length sc, dr] ∧ w'.cell? ⟨gg, k.toNat, none⟩ = some (.int .i64 r) ∧ w'.cell? (x.add ((r.toNat - 1) * 2)) = some (.slice ra o.1.length rc))) (by kernel_rfl) (by kernel_rfl) (⟨hT3.keep (Fr.drew _) id, cell_keep hck (Fr.drew _), hrv _ (F3.no (Fr.drew _))⟩) (Kp ?_)
  refine LdS_of (fun w' hw => hw.1) rfl (Kp ?_)
  refine Sd_intro (show 0 ≤ k ∧ k < (O'.length : Int) from ⟨k0, g⟩) (Kp ?_)
  refine LdS_intro (v := .int .i64 r) (fun w' hw => by rw [Nat.mul_one, add_of, Nat.zero_add]; exact hw.2.1) (Kp ?_)
  refine Sd_intro (by rw [e1]; omega) (Kp ?_)
  refine LdS_intro (v := .slice ra o.1.length rc) (fun w' hw => by rw [e1, show (r - 1).toNat = r.toNat - 1 by omega]; exact hw.2.2) (Kp ?_)
  refine ⟨Kp ?_, trivial⟩
  have D3 : Fr No w3 w3.drew := Fr.drew w3
  refine CallC_intro (meet_spec (F3.no D3) hU (own3.keep D3 (fun _ _ => id)) (q3.keep D3 id) (by omega) hO3 hob.2.2 (by omega) (by omega)) (fun v w4 ⟨own4, q4, F4, st4⟩ => ?_)
  refine Sd_intro ⟨hT.keep F4 id, st4 gg lc rfl k.toNat r hr, hrv _ F4⟩ (Kp ?_)
  refine ⟨(os.length - (k + 1)).toNat, _, by omega, ?_, (v, k + 1), rfl, meetL O' o.1, own4, q4, hO3.meet hob.2.2, ?_, hstep, F4, (show 0 ≤ k + 1 by omega), rfl⟩
  · exact ⟨rfl, rfl, rfl, look_int rfl (wrap_i64 (by omega) (by omega)), trivial⟩
  · have := (meetL_pre o.1 O').length_le
    show k + 1 ≤ ((meetL O' o.1).length : Int)
    omega
/-- append of a row that came in. -/
theorem ApU {P : Program} {T : Tab} (hT : T.Ok P) {t ty e : Nat} {q : Rec} (ht : T.d t = .slice e) (hq : Go.Vc.look T.recs e = some q) (hz : q.zero.length = q.size) (hs : q.size = 1)
    {w : World} {base c : Nat} {v : Value} {a : Option Addr} {l r : List Int} {K : Value → World → Prop} (own : OwnU w base e v l) (hbase : base ≤ w.heap.size) (hU : UC w (.slice a r.length c) r)
    (h63 : l.length + r.length ≤ 9223372036854775807) (hbytes : (l.length + r.length) * q.bytes ≤ 140737488355328)
    (k : ∀ v' w', OwnU w' base e v' (l ++ r) → Fr (fun k => v.ownBlock = some k) w w' → K v' w') :
    RunC P (Builtin.append_ #[t, t] ty #[v, .slice a r.length c]) w K := by
  obtain ⟨_, i, zv, hi, his, hby, hzv, hc⟩ := hT.recs e q hq
  unfold OwnU at own
  rw [← hs] at own
  have fin : ∀ v' w', w'.ownsRow base e q.size v' (l.length + r.length) (u64i l ++ u64i r) → OwnU w' base e v' (l ++ r) := fun v' w' h => by
    rw [hs] at h
    exact ownU_snoc h
  cases a with
  | none =>
    have hr : r = [] := by
      cases r with
      | nil => rfl
      | cons x r =>
        obtain ⟨a', c', e1, h⟩ := hU
        obtain ⟨y, hy, _⟩ := h 0 x rfl
        injection e1 with e1
        rw [← e1] at hy; cases hy
    subst hr
    refine RunC_intro (run_append_owned_none (P := P) (w := w) base t ty e i q.size (und_slice hT ht) hi v l.length (u64i l) own) (k v w ?_ (Fr.refl _ _))
    have := fin v w (by rw [show u64i ([] : List Int) = [] from rfl, List.append_nil]; exact own)
    exact this
  | some x =>
    have hzs : zv.cells.size = q.size := by rw [← Array.length_toList, hc, hz]
    have hcell : ∀ j u, (u64i r)[j]? = some u → w.cell? (x.add j) = some u := fun j u hj => by
      unfold u64i at hj
      rw [List.getElem?_map] at hj
      cases hr : r[j]? with
      | none => rw [hr] at hj; cases hj
      | some y =>
        rw [hr] at hj
        injection hj with hj
        obtain ⟨x', hx', hc'⟩ := uc_at hU hr
        injection hx' with hx'
        rw [hx', ← hj]; exact hc'
    obtain ⟨v', w', hr, ho, hg, _, hloc⟩ := Go.run_append_own_at (P := P) w base t ty e i zv q.size q.bytes (und_slice hT ht) hi hzv his hby hzs (by omega) v l.length (u64i l) own x r.length c (u64i r) (by rw [u64i_len, hs, Nat.mul_one]) hcell (fun u hu => List.all_eq_true.1 (u64i_one r) u hu) (by simpa [maxLen] using h63) hbytes hbase
    exact RunC_intro hr (k v' w' (fin v' w' ho) ⟨hg.os, hg.tape, hg.output, hg.size, fun j hj hn => hg.block j hj (fun e => hn e.symm)⟩)
theorem LdSN_cells {S : World → Prop} {ad : Addr} {K : List Value → Prop} {n : Nat} {vs : List Value} (h : ∀ w', S w' → ∀ (j : Nat) (v : Value), vs[j]? = some v → w'.cell? (ad.add j) = some v) (hn : vs.length = n) (k : K vs) : LdSN S ad 0 n K := by
  subst hn
  suffices H : ∀ (vs : List Value) (i : Nat) (K : List Value → Prop), (∀ w', S w' → ∀ (j : Nat) (v : Value), vs[j]? = some v → w'.cell? (ad.add (i + j)) = some v) → K vs → LdSN S ad i vs.length K from
    H vs 0 K (fun w' hw j v hj => by rw [Nat.zero_add]; exact h w' hw j v hj) k
  intro vs
  induction vs with
  | nil => intro i K _ k; exact LdSN_zero' k
  | cons v vs ih =>
    intro i K hc k
    exact LdSN_cons' (LdS_intro (fun w' hw => hc w' hw 0 v rfl) (ih (i + 1) _ (fun w' hw j u hj => by rw [show i + 1 + j = i + (j + 1) by omega]; exact hc w' hw (j + 1) u hj) k))
theorem ord_clo {ss : List (List Int)} {os : List GObj} (_hi : GrIn ss os) (hO : OrdIn os.length (orderN (gO os) ss os.length)) :
    (∀ l ∈ ss, ∀ r ∈ l, r = 0 ∨ r ∈ orderN (gO os) ss os.length) ∧ (∀ q ∈ orderN (gO os) ss os.length, ∀ r ∈ (gO os q).1, r = 0 ∨ r ∈ orderN (gO os) ss os.length) := by
  refine ⟨fun l hl r hr => ?_, ?_⟩
  · by_cases e : r = 0
    · exact .inl e
    · right
      exact (bfsF_pre (gO os) os.length 0 (meetS [] ss)).subset (meetS_mem.2 (.inr ⟨⟨l, hl, hr⟩, e⟩))
  · refine bfsF_closed (gO os) (by have := hO.len; show (orderN (gO os) ss os.length).length ≤ _; omega) (fun j hj => absurd hj (by omega))
theorem nl_num {N : Nat} {O : List Int} {r : Int} (hO : OrdIn N O) (h : r = 0 ∨ r ∈ O) (h0 : 0 ≤ r) (h1 : r ≤ N) : (nl N O)[r.toNat]? = some (num O r) := by
  rw [nl_get (by omega), show ((r.toNat : Nat) : Int) = r by omega]
  unfold num
  rcases h with h | h
  · rw [if_pos h, if_neg (fun q => by have := hO.inn r q; omega)]
  · have := hO.inn r h
    rw [if_pos h, if_neg (by omega)]
theorem rowOut_len (O l : List Int) : (rowOut O l).length = l.length + 1 := by unfold rowOut; simp
theorem objOut_len (O : List Int) (x : GObj) : (objOut O x).length = x.1.length + x.2.length + 2 := by unfold objOut; simp
set_option maxHeartbeats 1000000 in
theorem GShape_spec {gb : Nat} {ss : List (List Int)} {os : List GObj} (w : World) (h : GrR w gb ss os) (hi : GrIn ss os) :
    CallC Pr f_gleanerref13_Graph_Shape [ptr gb] w (fun v w' => OwnU w' w.heap.size t_uint64 v (shapeO (gO os) ss (orderN (gO os) ss os.length)) ∧ ((shapeO (gO os) ss (orderN (gO os) ss os.length)).length : Int) ≤ 3000000000 ∧ Fr No w w') := by
  obtain ⟨mx, sa, sc, oa, oc, dr, hT, hS, hOb⟩ := h.tab
  have hn := hi.n
  have hsl := hi.sl
  refine callU_sound T_ok fun_gleanerref13_Graph_Shape rfl (by kernel_rfl) rfl (Kp ?_)
  refine CallC_intro (order_spec w h hi) (fun v w1 ⟨lv, nb, hv1, own1, hO, q1, hnb, F1⟩ => ?_)
  obtain ⟨cl1, cl2⟩ := ord_clo hi hO
  obtain ⟨O, eO⟩ : ∃ O, O = orderN (gO os) ss os.length := ⟨_, rfl⟩
  rw [← eO] at own1 hO q1 cl1 cl2 ⊢
  obtain ⟨la, lc, el⟩ := own_slice own1
  subst el
  subst hv1
  have hOl := hO.len
  have sz1 := F1.size
  -- the stacks
  refine Cut (α := Value) (fun out => [(0, ptr gb), (3, .slice la O.length lc), (4, .slice (some ⟨nb, 0, none⟩) (os.length + 1) (os.length + 1)), (5, out)])
    (fun out w' => OwnU w' w1.heap.size t_uint64 out (ss.flatMap (rowOut O)) ∧ (ss.flatMap (rowOut O)).length ≤ 4160 ∧ Fr No w1 w') ?_ (fun out w2 hJ => Kp ?_)
  · refine LoopC_intro (α := Value × Int) (fun x => [(0, ptr gb), (3, .slice la O.length lc), (4, .slice (some ⟨nb, 0, none⟩) (os.length + 1) (os.length + 1)), (5, x.1), (6, .int .i64 x.2)])
      (fun m x w' => OwnU w' w1.heap.size t_uint64 x.1 ((ss.take x.2.toNat).flatMap (rowOut O)) ∧ (((ss.take x.2.toNat).flatMap (rowOut O)).length : Int) ≤ 65 * x.2 ∧ Fr No w1 w' ∧ 0 ≤ x.2 ∧ x.2 ≤ ss.length ∧ m = (ss.length - x.2).toNat)
      (ss.length - 0 : Int).toNat (.slice none 0 0, 0) ⟨rfl, rfl, rfl, rfl, rfl, trivial⟩ ⟨OwnU.nil _ _ _, (show (0 : Int) ≤ 65 * 0 by omega), Fr.refl _ _, Int.le_refl _, (show (0 : Int) ≤ ss.length by omega), rfl⟩ (fun m x w2 hJ => Kp ?_)
    obtain ⟨out, i⟩ := x
    obtain ⟨own2, len2, F2, i0, i1, hm⟩ := hJ
    have own2 : OwnU w2 w1.heap.size t_uint64 out ((ss.take i.toNat).flatMap (rowOut O)) := own2
    have len2 : (((ss.take i.toNat).flatMap (rowOut O)).length : Int) ≤ 65 * i := len2
    have i0 : 0 ≤ i := i0
    have i1 : i ≤ (ss.length : Int) := i1
    have hm : m = (ss.length - i).toNat := hm
    have FF2 := F1.no F2
    refine Cut_no ?_
    refine LdC_blk (hT.keep FF2 id) rfl ?_
    refine Br_dec (fun g => ?_) (fun g => ?_)
    rotate_left
    · have g : ¬ i < (ss.length : Int) := g
      rw [List.take_of_length_le (by omega)] at own2 len2
      exact ⟨out, ⟨rfl, rfl, rfl, rfl, trivial⟩, own2, by omega, F2⟩
    have g : i < (ss.length : Int) := g
    obtain ⟨l, hl⟩ : ∃ l, ss[i.toNat]? = some l := ⟨_, List.getElem?_eq_getElem (by omega)⟩
    have hlm := List.mem_of_getElem? hl
    have hlb := hi.s l hlm
    obtain ⟨x, b, bd, sv, rfl, hc, hB, hU⟩ := hS i.toNat l hl
    obtain ⟨va, vc, rfl, _⟩ := id hU
    refine Cut_no ?_
    refine LdC_blk (hT.keep FF2 id) rfl ?_
    refine Sd_intro (show 0 ≤ i ∧ i < (ss.length : Int) from ⟨i0, g⟩) (Kp ?_)
    refine LdC_intro (v := ptr b) (by rw [Nat.mul_one]; exact cell_keep hc FF2) (Kp ?_)
    refine LdC_blk (hB.keep FF2 id) rfl ?_
    refine NewC_blk (fun pa w3 e_pa q3 f3 s3 => ?_)
    have eu : IntKind.u64.wrap (l.length : Int) = (l.length : Int) := wrap_u64 (by omega) (by omega)
    have q3 : Blk w3 pa t_uint64 (u64i [(l.length : Int)]) := by rw [← eu]; exact q3
    have sz2 := F2.size
    have sz3 := f3.size
    refine ApL T_ok (e := t_uint64) rfl rfl rfl (by decide) (own_keepV (show w2.ownsRow w1.heap.size t_uint64 1 out ((ss.take i.toNat).flatMap (rowOut O)).length (u64i ((ss.take i.toNat).flatMap (rowOut O))) from own2) f3 (fun _ _ => id)) (by omega) q3 (m := 1) (news := u64i [(l.length : Int)]) rfl rfl rfl (by omega) (show (((ss.take i.toNat).flatMap (rowOut O)).length + 1) * 8 ≤ 140737488355328 by omega) (fun v4 w4 o4 f4 l4 => ?_)
    have own4 : OwnU w4 w1.heap.size t_uint64 v4 ((ss.take i.toNat).flatMap (rowOut O) ++ [(l.length : Int)]) := ownU_snoc o4
    have F4 : Fr No w1 w4 := F2.trans (f3.noL f4) (fun _ _ e => e) (fun k hk e => by have := own2.lt k e; omega)
    refine LoopC_intro (α := Value × Int) (fun x => [(0, ptr gb), (3, .slice la O.length lc), (4, .slice (some ⟨nb, 0, none⟩) (os.length + 1) (os.length + 1)), (5, x.1), (6, .int .i64 i), (7, .int .i64 x.2)])
      (fun m x w' => OwnU w' w1.heap.size t_uint64 x.1 ((ss.take i.toNat).flatMap (rowOut O) ++ ((l.length : Int) :: (l.take x.2.toNat).map (num O))) ∧ Fr No w1 w' ∧ 0 ≤ x.2 ∧ x.2 ≤ l.length ∧ m = (l.length - x.2).toNat)
      (l.length - 0 : Int).toNat (v4, 0) ⟨rfl, rfl, rfl, rfl, rfl, rfl, trivial⟩ ⟨own4, F4, Int.le_refl _, (show (0 : Int) ≤ l.length by omega), rfl⟩ (fun m' x' w5 hJ => Kp ?_)
    obtain ⟨out5, j⟩ := x'
    obtain ⟨own5, F5, j0, j1, hm'⟩ := hJ
    have own5 : OwnU w5 w1.heap.size t_uint64 out5 ((ss.take i.toNat).flatMap (rowOut O) ++ ((l.length : Int) :: (l.take j.toNat).map (num O))) := own5
    have j0 : 0 ≤ j := j0
    have j1 : j ≤ (l.length : Int) := j1
    have hm' : m' = (l.length - j).toNat := hm'
    have FF5 := F1.no F5
    have ix : 0 ≤ i ∧ i < (ss.length : Int) := ⟨i0, g⟩
    refine Cut_no ?_
    refine LdC_blk (hT.keep FF5 id) rfl ?_
    refine Sd_intro ix (Kp ?_)
    refine LdC_intro (v := ptr b) (by rw [Nat.mul_one]; exact cell_keep hc FF5) (Kp ?_)
    refine LdC_blk (hB.keep FF5 id) rfl ?_
    refine Br_dec (fun g5 => ?_) (fun g5 => ?_)
    rotate_left
    · have g5 : ¬ j < (l.length : Int) := g5
      rw [show l.take j.toNat = l from List.take_of_length_le (by omega)] at own5
      have ej : (i + 1).toNat = i.toNat + 1 := by omega
      have etk : (ss.take (i + 1).toNat).flatMap (rowOut O) = (ss.take i.toNat).flatMap (rowOut O) ++ rowOut O l := by
        rw [ej, List.take_add_one, hl, List.flatMap_append]
        simp
      refine ⟨(ss.length - (i + 1)).toNat, _, by omega, ?_, (out5, i + 1), rfl, (show OwnU w5 _ _ out5 ((ss.take (i + 1).toNat).flatMap (rowOut O)) by rw [etk]; exact own5), ?_, F5, (show 0 ≤ i + 1 by omega), (show i + 1 ≤ (ss.length : Int) by omega), rfl⟩
      · exact ⟨rfl, rfl, rfl, rfl, look_int rfl (wrap_i64 (by omega) (by omega)), trivial⟩
      · show (((ss.take (i + 1).toNat).flatMap (rowOut O)).length : Int) ≤ 65 * (i + 1)
        rw [etk, List.length_append, rowOut_len]
        omega
    have g5 : j < (l.length : Int) := g5
    obtain ⟨r, hr⟩ : ∃ r, l[j.toNat]? = some r := ⟨_, List.getElem?_eq_getElem (by omega)⟩
    have hrm := List.mem_of_getElem? hr
    have hrb := hlb.2 r hrm
    obtain ⟨vx, rfl, hcr⟩ := uc_at hU hr
    have hnr := nl_num hO (cl1 l hlm r hrm) hrb.1 (by omega)
    refine Cut_no ?_
    refine LdC_blk (hT.keep FF5 id) rfl ?_
    refine Sd_intro ix (Kp ?_)
    refine LdC_intro (v := ptr b) (by rw [Nat.mul_one]; exact cell_keep hc FF5) (Kp ?_)
    refine LdC_blk (hB.keep FF5 id) rfl ?_
    refine Sd_intro (show 0 ≤ j ∧ j < (l.length : Int) from ⟨j0, g5⟩) (Kp ?_)
    refine LdC_intro (v := .int .u64 r) (by rw [Nat.mul_one]; exact cell_keep hcr FF5) (Kp ?_)
    refine Sd_intro (show 0 ≤ r ∧ r < ((os.length + 1 : Nat) : Int) by omega) (Kp ?_)
    refine LdC_idx (q1.keep F5 id) (by rw [Nat.mul_one, Nat.zero_add]; exact u64i_get? hnr) (Kp ?_)
    refine NewC_blk (fun pb w6 e_pb q6 f6 s6 => ?_)
    have q6 : Blk w6 pb t_uint64 (u64i [num O r]) := q6
    have sz5 := F5.size
    have sz6 := f6.size
    have l5 : ((ss.take i.toNat).flatMap (rowOut O) ++ ((l.length : Int) :: (l.take j.toNat).map (num O))).length ≤ 10000 := by
      rw [List.length_append, List.length_cons, List.length_map, List.length_take]; omega
    refine ApL T_ok (e := t_uint64) rfl rfl rfl (by decide) (own_keepV (show w5.ownsRow w1.heap.size t_uint64 1 out5 ((ss.take i.toNat).flatMap (rowOut O) ++ ((l.length : Int) :: (l.take j.toNat).map (num O))).length (u64i ((ss.take i.toNat).flatMap (rowOut O) ++ ((l.length : Int) :: (l.take j.toNat).map (num O)))) from own5) f6 (fun _ _ => id)) (by omega) q6 (m := 1) (news := u64i [num O r]) rfl rfl rfl (by omega) (show (((ss.take i.toNat).flatMap (rowOut O) ++ ((l.length : Int) :: (l.take j.toNat).map (num O))).length + 1) * 8 ≤ 140737488355328 by omega) (fun v7 w7 o7 f7 l7 => ?_)
    have own7 : OwnU w7 w1.heap.size t_uint64 v7 (((ss.take i.toNat).flatMap (rowOut O) ++ ((l.length : Int) :: (l.take j.toNat).map (num O))) ++ [num O r]) := ownU_snoc o7
    have F7 : Fr No w1 w7 := F5.trans (f6.noL f7) (fun _ _ e => e) (fun k hk e => by have := own5.lt k e; omega)
    have ej : (j + 1).toNat = j.toNat + 1 := by omega
    have etk : (ss.take i.toNat).flatMap (rowOut O) ++ ((l.length : Int) :: (l.take (j + 1).toNat).map (num O)) = ((ss.take i.toNat).flatMap (rowOut O) ++ ((l.length : Int) :: (l.take j.toNat).map (num O))) ++ [num O r] := by
      rw [ej, List.take_add_one, hr, List.map_append, List.append_assoc]; rfl
    refine ⟨(l.length - (j + 1)).toNat, _, by omega, ?_, (v7, j + 1), rfl, (show OwnU w7 _ _ v7 ((ss.take i.toNat).flatMap (rowOut O) ++ ((l.length : Int) :: (l.take (j + 1).toNat).map (num O))) by rw [etk]; exact own7), F7, (show 0 ≤ j + 1 by omega), (show j + 1 ≤ (l.length : Int) by omega), rfl⟩
    exact ⟨rfl, rfl, rfl, rfl, rfl, look_int rfl (wrap_i64 (by omega) (by omega)), trivial⟩
  obtain ⟨own2, len2, F2⟩ := hJ
  obtain ⟨A, eA⟩ : ∃ A, A = ss.flatMap (rowOut O) := ⟨_, rfl⟩
  rw [← eA] at own2 len2
  have eSh : shapeO (gO os) ss O = A ++ O.flatMap fun r => objOut O (gO os r) := by unfold shapeO; rw [eA]
  rw [eSh]
  -- the objects
  refine Cut_no ?_
  refine LoopC_intro (α := Value × Int) (fun x => [(0, ptr gb), (3, .slice la O.length lc), (4, .slice (some ⟨nb, 0, none⟩) (os.length + 1) (os.length + 1)), (5, x.1), (8, .int .i64 x.2)])
    (fun m x w' => OwnU w' w1.heap.size t_uint64 x.1 (A ++ (O.take x.2.toNat).flatMap fun r => objOut O (gO os r)) ∧ ((A ++ (O.take x.2.toNat).flatMap fun r => objOut O (gO os r)).length : Int) ≤ 4160 + 2097154 * x.2 ∧ Fr No w1 w' ∧ 0 ≤ x.2 ∧ x.2 ≤ O.length ∧ m = (O.length - x.2).toNat)
    (O.length - 0 : Int).toNat (out, 0) ⟨rfl, rfl, rfl, rfl, rfl, trivial⟩ ⟨(show OwnU w2 _ _ out (A ++ []) by rw [List.append_nil]; exact own2), (show ((A ++ []).length : Int) ≤ 4160 + 2097154 * 0 by rw [List.append_nil]; omega), F2, Int.le_refl _, (show (0 : Int) ≤ O.length by omega), rfl⟩ (fun m x w3 hJ => Kp ?_)
  obtain ⟨out3, k⟩ := x
  obtain ⟨own3, len3, F3, k0, k1, hm⟩ := hJ
  obtain ⟨P3, eP3⟩ : ∃ P3, P3 = A ++ (O.take k.toNat).flatMap fun r => objOut O (gO os r) := ⟨_, rfl⟩
  have own3 : OwnU w3 w1.heap.size t_uint64 out3 P3 := by rw [eP3]; exact own3
  have len3 : (P3.length : Int) ≤ 4160 + 2097154 * k := by rw [eP3]; exact len3
  have k0 : 0 ≤ k := k0
  have k1 : k ≤ (O.length : Int) := k1
  have hm : m = (O.length - k).toNat := hm
  have FF3 := F1.no F3
  refine Cut_no ?_
  refine Br_dec (fun g => ?_) (fun g => ?_)
  rotate_left
  · have g : ¬ k < (O.length : Int) := g
    rw [eP3, List.take_of_length_le (by omega)] at own3 len3
    exact ⟨own_low own3 sz1, by omega, F1.no F3⟩
  have g : k < (O.length : Int) := g
  obtain ⟨r, hr⟩ : ∃ r, O[k.toNat]? = some r := ⟨_, List.getElem?_eq_getElem (by omega)⟩
  have hrm := List.mem_of_getElem? hr
  have hrb := hO.inn r hrm
  obtain ⟨o, ho⟩ : ∃ o, os[r.toNat - 1]? = some o := ⟨_, List.getElem?_eq_getElem (by omega)⟩
  have hob := hi.o o (List.mem_of_getElem? ho)
  have ego : gO os r = o := gO_get hrb.1 ho
  have cl := cl2 r hrm
  rw [ego] at cl
  obtain ⟨x, rv, dv, rfl, hcell, hU, hD⟩ := hOb (r.toNat - 1) o ho
  obtain ⟨ra, rc, rfl, _⟩ := id hU
  obtain ⟨da, dc, rfl, _⟩ := id hD
  have hck : ∀ w', Fr No w1 w' → ∃ lx, la = some lx ∧ w'.cell? (lx.add k.toNat) = some (.int .i64 r) := fun w' f => by
    obtain ⟨lx, e, h⟩ := ((own1.ints.keep f (fun _ _ => id)).cell (show k.toNat < O.length by omega))
    have e2 : O[k.toNat]'(by omega) = r := by
      rw [List.getElem?_eq_getElem (by omega)] at hr
      injection hr
    rw [e2] at h
    exact ⟨lx, e, h⟩
  obtain ⟨lx, rfl, hlx⟩ := hck w3 F3
  have e1 : IntKind.i64.wrap (r - 1) = r - 1 := wrap_i64 (by omega) (by omega)
  have S3 : ∀ {w' : World}, Fr No w3 w' → Blk w' gb t_gleanerref13_Graph [mx, .slice (some x) os.length oc, .slice sa ss.length sc, dr] ∧ w'.cell? (lx.add k.toNat) = some (.int .i64 r) ∧ ∀ (j : Nat) (v : Value), ([Value.slice ra o.1.length rc, .slice da o.2.length dc])[j]? = some v → w'.cell? ((x.add ((r.toNat - 1) * 2)).add j) = some v :=
    fun f => ⟨hT.keep (FF3.no f) id, cell_keep hlx f, fun j v hj => cell_keep (hcell j v hj) (FF3.no f)⟩
  refine Cut_no ?_
  refine AnyC_plan T_ok mixed (planO [0,1,2,3,4,5,6,7,8,9,10,1011,1012]) ((fun w' => Blk w' gb t_gleanerref13_Graph [mx, .slice (some x) os.length oc, .slice sa ss.length sc, dr] ∧ w'.cell? (lx.add k.toNat) = some (.int .i64 r) ∧ ∀ (j : Nat) (v : Value), ([Value.slice ra o.1.length rc, .slice da o.2.length dc])[j]? = some v → w'.cell? ((x.add ((r.toNat - 1) * 2)).add j) = some v)) (by kernel_rfl) (by kernel_rfl) ((S3 (Fr.drew _))) (Kp ?_)
  refine LdS_of (fun w' hw => hw.1) rfl (Kp ?_)
  refine Sd_intro (show 0 ≤ k ∧ k < (O.length : Int) from ⟨k0, g⟩) (Kp ?_)
  refine LdS_intro (v := .int .i64 r) (fun w' hw => by rw [Nat.mul_one]; exact hw.2.1) (Kp ?_)
  refine Sd_intro (by rw [e1]; omega) (Kp ?_)
  refine LdSN_cells (vs := [.slice ra o.1.length rc, .slice da o.2.length dc]) (fun w' hw j v hj => by rw [e1, show (r - 1).toNat = r.toNat - 1 by omega]; exact hw.2.2 j v hj) rfl (Kp ?_)
  refine ⟨Kp ?_, trivial⟩
  have D3 : Fr No w3 w3.drew := Fr.drew w3
  refine NewC_blk (fun p9 w4 e_p9 b4 f4 s4 => ?_)
  have g4 := D3.no f4
  refine Sd_intro (S3 g4) (Kp ?_)
  refine ⟨Kp ?_, trivial⟩
  refine StN_blk (b4) rfl (Nat.le_of_ble_eq_true rfl) (fun w5 b5 f5 s5 => ?_)
  have b5 : Blk w5 p9 t_gleanerref13_Object [.slice ra o.1.length rc, .slice da o.2.length dc] := b5
  have f35 : Fr No w3 w5 := D3.no (f4.new f5 (fun _ _ e => e) (fun k e => by omega))
  refine Sd_intro (S3 f35) (Kp ?_)
  have F5 := F3.no f35
  have own5 := own3.keep f35 (fun _ _ => id)
  have sz3 := F3.size
  have sz5 := F5.size
  -- the lengths
  refine LdC_blk (b5) rfl ?_
  refine LdC_blk (b5) rfl ?_
  have eu1 : IntKind.u64.wrap (o.1.length : Int) = (o.1.length : Int) := wrap_u64 (by omega) (by omega)
  have eu2 : IntKind.u64.wrap (o.2.length : Int) = (o.2.length : Int) := wrap_u64 (by omega) (by omega)
  refine NewC_blk (fun pa w6 e_pa q6 f6 s6 => ?_)
  have q6 : Blk w6 pa t_uint64 (u64i [(o.1.length : Int), (o.2.length : Int)]) := by
    have e : u64i [(o.1.length : Int), (o.2.length : Int)] = [.int .u64 (IntKind.u64.wrap (o.1.length : Int)), .int .u64 (IntKind.u64.wrap (o.2.length : Int))] := by rw [eu1, eu2]; rfl
    rw [e]; exact q6
  have sz6 := f6.size
  refine ApL T_ok (e := t_uint64) rfl rfl rfl (by decide) (own_keepV (show w5.ownsRow w1.heap.size t_uint64 1 out3 P3.length (u64i P3) from own5) f6 (fun _ _ => id)) (by omega) q6 (m := 2) (news := u64i [(o.1.length : Int), (o.2.length : Int)]) rfl rfl rfl (by omega) (show (P3.length + 2) * 8 ≤ 140737488355328 by omega) (fun v7 w7 o7 f7 l7 => ?_)
  have own7 : OwnU w7 w1.heap.size t_uint64 v7 (P3 ++ [(o.1.length : Int), (o.2.length : Int)]) := ownU_snoc o7
  have ne9 : ∀ {w' : World} {v : Value} {l : List Int}, OwnU w' w1.heap.size t_uint64 v l → Blk w' p9 t_gleanerref13_Object [.slice ra o.1.length rc, .slice da o.2.length dc] → v.ownBlock ≠ some p9 := fun ho hb e => by
    obtain ⟨cur, hb2, _⟩ := own_blk (show World.ownsRow _ _ _ _ _ _ _ from ho) p9 e
    have := (hb2.inj hb).2
    cases this
  have b7 := (b5.keep f6 id).keep f7 (ne9 (own5.keep f6 (fun _ _ => id)) (b5.keep f6 id))
  have F7 : Fr No w1 w7 := F5.trans (f6.noL f7) (fun _ _ e => e) (fun k hk e => by have := own5.lt k e; omega)
  refine Cut_no ?_
  refine LoopC_intro (α := Value × Int) (fun x' => [(0, ptr gb), (3, .slice (some lx) O.length lc), (4, .slice (some ⟨nb, 0, none⟩) (os.length + 1) (os.length + 1)), (5, x'.1), (8, .int .i64 k), (9, ptr p9), (10, .int .i64 x'.2)])
    (fun m x' w' => OwnU w' w1.heap.size t_uint64 x'.1 (P3 ++ ((o.1.length : Int) :: (o.2.length : Int) :: (o.1.take x'.2.toNat).map (num O))) ∧ Blk w' p9 t_gleanerref13_Object [.slice ra o.1.length rc, .slice da o.2.length dc] ∧ Fr No w1 w' ∧ 0 ≤ x'.2 ∧ x'.2 ≤ o.1.length ∧ m = (o.1.length - x'.2).toNat)
    (o.1.length - 0 : Int).toNat (v7, 0) ⟨rfl, rfl, rfl, rfl, rfl, rfl, rfl, trivial⟩ ⟨own7, b7, F7, Int.le_refl _, (show (0 : Int) ≤ o.1.length by omega), rfl⟩ (fun m' x' w8 hJ => Kp ?_)
  obtain ⟨out8, j⟩ := x'
  obtain ⟨own8, b8, F8, j0, j1, hm'⟩ := hJ
  obtain ⟨P8, eP8⟩ : ∃ P8, P8 = P3 ++ ((o.1.length : Int) :: (o.2.length : Int) :: (o.1.take j.toNat).map (num O)) := ⟨_, rfl⟩
  have own8 : OwnU w8 w1.heap.size t_uint64 out8 P8 := by rw [eP8]; exact own8
  have j0 : 0 ≤ j := j0
  have j1 : j ≤ (o.1.length : Int) := j1
  have hm' : m' = (o.1.length - j).toNat := hm'
  have len8 : P8.length ≤ 4000000000 := by
    rw [eP8, List.length_append, List.length_cons, List.length_cons, List.length_map, List.length_take]; omega
  have sz8 := F8.size
  refine Cut_no ?_
  refine LdC_blk (b8) rfl ?_
  refine Br_dec (fun g5 => ?_) (fun g5 => ?_)
  · have g5 : j < (o.1.length : Int) := g5
    obtain ⟨s, hs⟩ : ∃ s, o.1[j.toNat]? = some s := ⟨_, List.getElem?_eq_getElem (by omega)⟩
    have hsm := List.mem_of_getElem? hs
    have hsb := hob.2.2 s hsm
    obtain ⟨vx, rfl, hcs⟩ := uc_at hU hs
    have hns := nl_num hO (cl s hsm) hsb.1 (by omega)
    refine Cut_no ?_
    refine LdC_blk (b8) rfl ?_
    refine Sd_intro (show 0 ≤ j ∧ j < (o.1.length : Int) from ⟨j0, g5⟩) (Kp ?_)
    refine LdC_intro (v := .int .u64 s) (by rw [Nat.mul_one]; exact cell_keep hcs (F1.no F8)) (Kp ?_)
    refine Sd_intro (show 0 ≤ s ∧ s < ((os.length + 1 : Nat) : Int) by omega) (Kp ?_)
    refine LdC_idx (q1.keep F8 id) (by rw [Nat.mul_one, Nat.zero_add]; exact u64i_get? hns) (Kp ?_)
    refine NewC_blk (fun pb w9 e_pb q9 f9 s9 => ?_)
    have q9 : Blk w9 pb t_uint64 (u64i [num O s]) := q9
    have sz9 := f9.size
    refine ApL T_ok (e := t_uint64) rfl rfl rfl (by decide) (own_keepV (show w8.ownsRow w1.heap.size t_uint64 1 out8 P8.length (u64i P8) from own8) f9 (fun _ _ => id)) (by omega) q9 (m := 1) (news := u64i [num O s]) rfl rfl rfl (by omega) (show (P8.length + 1) * 8 ≤ 140737488355328 by omega) (fun va wa oa' fa la' => ?_)
    have owna : OwnU wa w1.heap.size t_uint64 va (P8 ++ [num O s]) := ownU_snoc oa'
    have ba := (b8.keep f9 id).keep fa (ne9 (own8.keep f9 (fun _ _ => id)) (b8.keep f9 id))
    have Fa : Fr No w1 wa := F8.trans (f9.noL fa) (fun _ _ e => e) (fun k hk e => by have := own8.lt k e; omega)
    have ej : (j + 1).toNat = j.toNat + 1 := by omega
    have etk : P3 ++ ((o.1.length : Int) :: (o.2.length : Int) :: (o.1.take (j + 1).toNat).map (num O)) = P8 ++ [num O s] := by
      rw [eP8, ej, List.take_add_one, hs, List.map_append, List.append_assoc]; rfl
    refine ⟨(o.1.length - (j + 1)).toNat, _, by omega, ?_, (va, j + 1), rfl, (show OwnU wa _ _ va (P3 ++ ((o.1.length : Int) :: (o.2.length : Int) :: (o.1.take (j + 1).toNat).map (num O))) by rw [etk]; exact owna), ba, Fa, (show 0 ≤ j + 1 by omega), (show j + 1 ≤ (o.1.length : Int) by omega), rfl⟩
    exact ⟨rfl, rfl, rfl, rfl, rfl, rfl, look_int rfl (wrap_i64 (by omega) (by omega)), trivial⟩
  · have g5 : ¬ j < (o.1.length : Int) := g5
    refine LdC_blk (b8) rfl ?_
    refine ApU T_ok (e := t_uint64) rfl rfl rfl rfl own8 (by omega) (hD.keep (F1.no F8)) (by omega) (show (P8.length + o.2.length) * 8 ≤ 140737488355328 by omega) (fun va wa owna fa => ?_)
    have Fa : Fr No w1 wa := F8.trans fa (fun _ _ e => e) (fun k hk e => by have := own8.lt k e; omega)
    have ek : (k + 1).toNat = k.toNat + 1 := by omega
    have etk : A ++ ((O.take (k + 1).toNat).flatMap fun r => objOut O (gO os r)) = P8 ++ o.2 := by
      rw [ek, List.take_add_one, hr, List.flatMap_append, ← List.append_assoc, ← eP3, eP8, show o.1.take j.toNat = o.1 from List.take_of_length_le (by omega), List.append_assoc]
      congr 1
      show ([r].flatMap fun r => objOut O (gO os r)) = _
      rw [List.flatMap_singleton, ego]
      unfold objOut
      simp
    refine ⟨(O.length - (k + 1)).toNat, _, by omega, ?_, (va, k + 1), rfl, (show OwnU wa _ _ va (A ++ ((O.take (k + 1).toNat).flatMap fun r => objOut O (gO os r))) by rw [etk]; exact owna), ?_, Fa, (show 0 ≤ k + 1 by omega), (show k + 1 ≤ (O.length : Int) by omega), rfl⟩
    · exact ⟨rfl, rfl, rfl, rfl, look_int rfl (wrap_i64 (by omega) (by omega)), trivial⟩
    · show ((A ++ ((O.take (k + 1).toNat).flatMap fun r => objOut O (gO os r))).length : Int) ≤ 4160 + 2097154 * (k + 1)
      rw [etk, eP8, List.length_append, List.length_append, List.length_cons, List.length_cons, List.length_map, List.length_take]
      omega
end Go.Proofs.YtdhbpklmkibmbaaGreat
