/- Layer 18 (cset): the document's answer: Choose. -/
import Derived.Test.YtfokdnmidfmddaaCsetRef2
namespace Go.Proofs.Ytfokdnmidfmddaa
open Go.Vc Go.Sort

def Rises (l : List Int) : Prop := l.Pairwise (fun x y => x < y)
set_option maxHeartbeats 2000000 in
theorem Choose18_spec (vy vl : Value) (young : List Int) (l : List (Int × Int)) (b : Int) (w : World) (hy : Ints w vy young) (h : Cands w vl l) (ly : young.length ≤ 300) (ll : l.length ≤ 300) (hb : -9223372036854775808 ≤ b ∧ b ≤ 9223372036854775807) :
    CallC Pr f_gleanerref18_Choose [vy, vl, .int .i64 b] w (fun r w' => (∃ L l', Own w' w.heap.size r L ∧ L.length ≤ 600 ∧ Rises L ∧ l'.Perm l ∧ Sorted l' ∧ ∀ x, x ∈ L ↔ x ∈ young ∨ x ∈ takeB b l') ∧ Fr No w w') := by
  obtain ⟨ay, cy, ev, _⟩ := id hy
  subst ev
  obtain ⟨al, cl, ev, _⟩ := id h
  subst ev
  refine call_sound T_ok fun_gleanerref18_Choose rfl (by kernel_rfl) rfl (Kp ?_)
  refine LoopC_intro (α := Int × Value) (fun q => [(0, .slice ay young.length cy), (1, .slice al l.length cl), (2, .int .i64 b), (7, q.2), (8, .int .i64 q.1)])
    (fun m q w2 => Fr No w w2 ∧ 0 ≤ q.1 ∧ q.1 ≤ young.length ∧ (∃ L, Own w2 w.heap.size q.2 L ∧ (L.length : Int) ≤ q.1 ∧ Rises L ∧ ∀ x, x ∈ L ↔ x ∈ young.take q.1.toNat) ∧ m = (young.length - q.1).toNat)
    young.length (0, .slice none 0 0) ⟨rfl, rfl, rfl, rfl, rfl, trivial⟩ ⟨Fr.refl _ _, Int.le_refl _, by show (0 : Int) ≤ _; omega, ⟨[], World.ownsRow_nil _ _ _ _, Int.le_refl _, List.Pairwise.nil, fun x => Iff.rfl⟩, by show _ = ((young.length : Int) - 0).toNat; omega⟩ (fun m q w2 hJ => Kp ?_)
  obtain ⟨f2, i0, i1, ⟨L, own, hLl, hLs, hLm⟩, hm⟩ := hJ
  obtain ⟨i, vo⟩ := q
  have i0 : 0 ≤ i := i0
  have i1 : i ≤ young.length := i1
  have own : Own w2 w.heap.size vo L := own
  have hLl : (L.length : Int) ≤ i := hLl
  have hLm : ∀ x, x ∈ L ↔ x ∈ young.take i.toNat := hLm
  have s2 := f2.size
  refine Br_dec (fun g0 => ?_) (fun g0 => ?_)
  · have g0 : i < (young.length : Int) := g0
    have hi : i.toNat < young.length := by omega
    obtain ⟨x, rfl, hx⟩ := (hy.keep f2 (fun _ _ => id)).cell hi
    refine Sd_intro (show 0 ≤ i ∧ i < (young.length : Int) by omega) ?_
    refine LdC_intro (v := .int .i64 young[i.toNat]) (by rw [Nat.mul_one]; exact hx) ?_
    refine CallC_intro (add18_spec vo L young[i.toNat] w2 own s2 (by omega) hLs) (fun r w3 ⟨⟨L', own3, hl3, hs3, hm3⟩, _, f3⟩ => ?_)
    refine ⟨(young.length - (i + 1)).toNat, _, by omega, ?_, (i + 1, r), rfl, f2.new f3 (fun _ _ e => e) (fun k e => own_ge own k e), by show 0 ≤ i + 1; omega, by show i + 1 ≤ (young.length : Int); omega, ⟨L', own3, by show (L'.length : Int) ≤ i + 1; omega, hs3, fun x => ?_⟩, rfl⟩
    · exact ⟨rfl, rfl, rfl, rfl, look_int rfl (wrap_i64 (by omega) (by omega)), trivial⟩
    · show x ∈ L' ↔ x ∈ young.take (i + 1).toNat
      rw [hm3, hLm, show (i + 1).toNat = i.toNat + 1 by omega, List.take_add_one, List.getElem?_eq_getElem hi, List.mem_append]
      simp
  have g0 : ¬ i < (young.length : Int) := g0
  rw [List.take_of_length_le (by omega)] at hLm
  have ltO := fun k e => (World.ownsRow.lt own k e).2
  refine MkC T_ok (z := .bool false) rfl rfl rfl rfl (n := (l.length : Int)) (by omega) (by omega) (show (1 : Int) * _ ≤ _ by omega) (fun dr w3 hdr h3 f3 s3 => ?_)
  have h3 : Blk w3 dr t_bool (bools (fun j => decide (j ∈ ([] : List Nat))) l.length) := by
    have e : bools (fun j => decide (j ∈ ([] : List Nat))) l.length = List.replicate l.length (.bool false) := by
      rw [← bools_false]
      exact bools_congr fun j _ => by rw [decide_eq_false_iff_not]; simp
    rw [Int.toNat_natCast] at h3
    rw [e]; exact h3
  have F3 := f2.no f3
  refine LoopC_intro (α := Int × Int × Value) (fun q => [(1, .slice al l.length cl), (2, .int .i64 q.2.1), (7, q.2.2), (9, .slice (some ⟨dr, 0, none⟩) l.length l.length), (10, .int .i64 q.1)])
    (fun m q w4 => Fr No w w4 ∧ 0 ≤ q.1 ∧ q.1 ≤ l.length ∧ (∃ ix : List Nat, (ix.length : Int) = q.1 ∧ ix.Nodup ∧ (∀ j ∈ ix, j < l.length) ∧ Sorted (picks l ix) ∧ (∀ j, j < l.length → j ∉ ix → ∀ c ∈ picks l ix, ¬ cmpK (getC l j) c < 0) ∧
        (∀ Q, takeB b (picks l ix ++ Q) = (picks l ix).map (·.1) ++ takeB q.2.1 Q) ∧ Blk w4 dr t_bool (bools (fun j => decide (j ∈ ix)) l.length) ∧
        ∃ L, Own w4 w.heap.size q.2.2 L ∧ (L.length : Int) ≤ young.length + q.1 ∧ Rises L ∧ ∀ x, x ∈ L ↔ x ∈ young ∨ x ∈ (picks l ix).map (·.1)) ∧
      (∀ k, q.2.2.ownBlock = some k → k ≠ dr) ∧ (-9223372036854775808 ≤ q.2.1 ∧ q.2.1 ≤ 9223372036854775807) ∧ w3.heap.size ≤ w4.heap.size ∧ m = (l.length - q.1).toNat)
    l.length (0, b, vo) ⟨rfl, rfl, rfl, ?_, rfl, trivial⟩ ⟨F3, Int.le_refl _, by show (0 : Int) ≤ _; omega, ⟨[], rfl, List.nodup_nil, fun j hj => (by cases hj), fun i j a b _ hi => (by cases hi), fun j _ _ c hc => (by cases hc), fun Q => rfl, h3, L, own.keep f3 (fun _ _ => id), by show (L.length : Int) ≤ young.length + 0; omega, hLs, fun x => by rw [hLm]; simp [picks]⟩, fun k e => by have := ltO k e; omega, hb, Nat.le_refl _, by show _ = ((l.length : Int) - 0).toNat; omega⟩ (fun m q w4 hJ => Kp ?_)
  · show some (Value.slice (some ⟨dr, 0, none⟩) (l.length : Int).toNat (l.length : Int).toNat) = _
    rw [Int.toNat_natCast]
  obtain ⟨F4, k0, k1, ⟨ix, hixl, nd, hlt, hsP, hcr, hbQ, hrow, L4, own4, hl4, hs4, hm4⟩, ndr, bb, sz4, hm⟩ := hJ
  obtain ⟨k, bud, vo4⟩ := q
  have k0 : 0 ≤ k := k0
  have k1 : k ≤ l.length := k1
  have hixl : (ix.length : Int) = k := hixl
  have hbQ : ∀ Q, takeB b (picks l ix ++ Q) = (picks l ix).map (·.1) ++ takeB bud Q := hbQ
  have own4 : Own w4 w.heap.size vo4 L4 := own4
  have hl4 : (L4.length : Int) ≤ young.length + k := hl4
  have ndr : ∀ k, vo4.ownBlock = some k → k ≠ dr := ndr
  have bb : -9223372036854775808 ≤ bud ∧ bud ≤ 9223372036854775807 := bb
  have fin : ∀ w', Fr No w w' → Own w' w.heap.size vo4 L4 → (∀ j, j < l.length → j ∉ ix → liveK (getC l j) > bud) → (∃ L l', Own w' w.heap.size vo4 L ∧ L.length ≤ 600 ∧ Rises L ∧ l'.Perm l ∧ Sorted l' ∧ ∀ x, x ∈ L ↔ x ∈ young ∨ x ∈ takeB b l') ∧ Fr No w w' := by
    intro w' F o he
    obtain ⟨l', p', s', e'⟩ := pick_end nd hlt hsP hcr hbQ he
    exact ⟨⟨L4, l', o, by omega, hs4, p', s', fun x => by rw [hm4, e']⟩, F⟩
  refine Br_dec (fun g1 => ?_) (fun g1 => ?_)
  · have g1 : k < (l.length : Int) := g1
    have hC := h.keep F4 (fun _ _ => id)
    have hrd : ∀ j : Nat, j < l.length → (bools (fun j => decide (j ∈ ix)) l.length)[0 + j * 1]? = some (.bool (decide (j ∈ ix))) := fun j hj => by rw [Nat.zero_add, Nat.mul_one, bools_get hj]
    refine LoopC_intro (α := Int × Int) (fun q => [(1, .slice al l.length cl), (2, .int .i64 bud), (7, vo4), (9, .slice (some ⟨dr, 0, none⟩) l.length l.length), (10, .int .i64 k), (11, .int .i64 q.2), (12, .int .i64 q.1)])
      (fun m q w5 => Fr No w4 w5 ∧ 0 ≤ q.1 ∧ q.1 ≤ l.length ∧ ((q.2 = -1 ∧ ∀ j : Nat, (j : Int) < q.1 → j ∈ ix) ∨ (0 ≤ q.2 ∧ q.2 < l.length ∧ q.2.toNat ∉ ix ∧ ∀ j : Nat, (j : Int) < q.1 → j ∉ ix → ¬ cmpK (getC l j) (getC l q.2.toNat) < 0)) ∧ m = (l.length - q.1).toNat)
      l.length (0, -1) ⟨rfl, rfl, rfl, rfl, rfl, rfl, rfl, trivial⟩ ⟨Fr.refl _ _, Int.le_refl _, by show (0 : Int) ≤ _; omega, .inl ⟨rfl, fun j hj => by have hj : (j : Int) < 0 := hj; omega⟩, by show _ = ((l.length : Int) - 0).toNat; omega⟩ (fun m q w5 hJ => Kp ?_)
    obtain ⟨f5, j0, j1, hmin, hm5⟩ := hJ
    obtain ⟨j, p⟩ := q
    have j0 : 0 ≤ j := j0
    have j1 : j ≤ l.length := j1
    have hmin : (p = -1 ∧ ∀ i : Nat, (i : Int) < j → i ∈ ix) ∨ (0 ≤ p ∧ p < l.length ∧ p.toNat ∉ ix ∧ ∀ i : Nat, (i : Int) < j → i ∉ ix → ¬ cmpK (getC l i) (getC l p.toNat) < 0) := hmin
    have hC5 := hC.keep f5 (fun _ _ => id)
    have hrow5 := hrow.keep f5 id
    have F5 := F4.no f5
    refine Br_dec (fun g2 => ?_) (fun g2 => ?_)
    · have g2 : j < (l.length : Int) := g2
      have hj : j.toNat < l.length := by omega
      refine AnyC_mid (α := Bool) (fun r => [(1, .slice al l.length cl), (2, .int .i64 bud), (7, vo4), (9, .slice (some ⟨dr, 0, none⟩) l.length l.length), (10, .int .i64 k), (11, .int .i64 p), (12, .int .i64 j), (59, .bool r)])
        (fun r w' => Fr No w5 w' ∧ (r = true → j.toNat ∉ ix ∧ (p < 0 ∨ cmpK (getC l j.toNat) (getC l p.toNat) < 0)) ∧ (r = false → j.toNat ∈ ix ∨ (0 ≤ p ∧ ¬ cmpK (getC l j.toNat) (getC l p.toNat) < 0))) ?_ (fun r w6 hw6 => Kp ?_)
      · refine AnyC_plan T_ok mixed (planO [0,1,2,3,4,5,6,7,8,9,10,11,12,13,14,15,16,1017,18,19]) (Old w5) (by kernel_rfl) (by kernel_rfl) (fun _ _ => rfl) (Kp ?_)
        refine Sd_intro (show 0 ≤ j ∧ j < (l.length : Int) by omega) ?_
        refine LdS_idx hrow5 (hrd j.toNat hj) ?_
        refine Br_ndec (fun g3 => ?_) (fun g3 => ?_)
        · have g3 : ¬ j.toNat ∈ ix := g3
          refine Br_dec (fun g4 => ?_) (fun g4 => ?_)
          · have g4 : p < 0 := g4
            refine ⟨?_, trivial⟩
            exact ⟨true, ⟨rfl, rfl, rfl, rfl, rfl, rfl, rfl, rfl, trivial⟩, Fr.drew w5, fun _ => ⟨g3, .inl g4⟩, fun e => by cases e⟩
          · have g4 : ¬ p < 0 := g4
            have hp : 0 ≤ p ∧ p < l.length := by
              rcases hmin with ⟨e, _⟩ | ⟨a1, a2, _⟩
              · omega
              · exact ⟨a1, a2⟩
            obtain ⟨x1, e1, hx1⟩ := hC5.cell rfl hj
            obtain ⟨x2, e2, hx2⟩ := hC5.cell rfl (show p.toNat < l.length by omega)
            rw [e1] at e2
            injection e2 with e2
            subst e1 e2
            refine Sd_intro (show 0 ≤ j ∧ j < (l.length : Int) by omega) ?_
            refine LdSN_cells (vs := candL l[j.toNat]) hx1 rfl ?_
            refine Sd_intro (show 0 ≤ p ∧ p < (l.length : Int) by omega) ?_
            refine LdSN_cells (vs := candL (l[p.toNat]'(by omega))) hx2 rfl ?_
            refine ⟨?_, trivial⟩
            refine CallC_intro (less18_spec l[j.toNat] (l[p.toNat]'(by omega)) _) (fun v w6 ⟨hv, f6⟩ => ?_)
            subst hv
            have f6 := f6.drewL
            refine Sd_intro f6.old ?_
            have ej : getC l j.toNat = l[j.toNat] := by unfold getC; rw [List.getElem?_eq_getElem hj]; rfl
            have ep : getC l p.toNat = l[p.toNat]'(by omega) := by unfold getC; rw [List.getElem?_eq_getElem (by omega)]; rfl
            refine ⟨decide (cmpK l[j.toNat] (l[p.toNat]'(by omega)) < 0), ⟨rfl, rfl, rfl, rfl, rfl, rfl, rfl, rfl, trivial⟩, f6, fun e => ⟨g3, .inr ?_⟩, fun e => .inr ⟨hp.1, ?_⟩⟩
            · rw [ej, ep]; exact of_decide_eq_true e
            · rw [ej, ep]; exact of_decide_eq_false e
        · have g3 : j.toNat ∈ ix := g3
          refine ⟨?_, trivial⟩
          exact ⟨false, ⟨rfl, rfl, rfl, rfl, rfl, rfl, rfl, rfl, trivial⟩, Fr.drew w5, fun e => (by cases e), fun _ => .inl g3⟩
      · obtain ⟨f6, ht, hf⟩ := hw6
        refine Br_intro (fun hr => ?_) (fun hr => ?_)
        · obtain ⟨hn, hless⟩ := ht hr
          refine ⟨(l.length - (j + 1)).toNat, _, by omega, ?_, (j + 1, j), rfl, f5.no f6, by show 0 ≤ j + 1; omega, by show j + 1 ≤ (l.length : Int); omega, .inr ⟨j0, g2, hn, fun i hi hni => ?_⟩, rfl⟩
          · exact ⟨rfl, rfl, rfl, rfl, rfl, rfl, look_int rfl (wrap_i64 (by omega) (by omega)), trivial⟩
          · have hi : (i : Int) < j + 1 := hi
            show ¬ cmpK (getC l i) (getC l j.toNat) < 0
            by_cases e : i = j.toNat
            · subst e; rw [cmpK_neg]; omega
            · rcases hmin with ⟨_, ha⟩ | ⟨hp0, _, _, ha⟩
              · exact absurd (ha i (by omega)) hni
              · have h1 := ha i (by omega) hni
                have h2 : cmpK (getC l j.toNat) (getC l p.toNat) < 0 := by
                  rcases hless with h | h
                  · omega
                  · exact h
                rw [cmpK_neg] at *
                omega
        · have hfr := hf hr
          refine ⟨(l.length - (j + 1)).toNat, _, by omega, ?_, (j + 1, p), rfl, f5.no f6, by show 0 ≤ j + 1; omega, by show j + 1 ≤ (l.length : Int); omega, ?_, rfl⟩
          · exact ⟨rfl, rfl, rfl, rfl, rfl, rfl, look_int rfl (wrap_i64 (by omega) (by omega)), trivial⟩
          · rcases hmin with ⟨e, ha⟩ | ⟨hp0, hp1, hp2, ha⟩
            · refine .inl ⟨e, fun i hi => ?_⟩
              have hi : (i : Int) < j + 1 := hi
              by_cases e2 : i = j.toNat
              · rcases hfr with h | h
                · rw [e2]; exact h
                · omega
              · exact ha i (by omega)
            · refine .inr ⟨hp0, hp1, hp2, fun i hi hni => ?_⟩
              have hi : (i : Int) < j + 1 := hi
              by_cases e2 : i = j.toNat
              · rcases hfr with h | h
                · rw [e2] at hni; exact absurd h hni
                · rw [e2]; exact h.2
              · exact ha i (by omega) hni
    · have g2 : ¬ j < (l.length : Int) := g2
      obtain ⟨hp0, hp1, hp2, ha⟩ : 0 ≤ p ∧ p < l.length ∧ p.toNat ∉ ix ∧ ∀ i : Nat, i < l.length → i ∉ ix → ¬ cmpK (getC l i) (getC l p.toNat) < 0 := by
        rcases hmin with ⟨_, ha⟩ | ⟨a1, a2, a3, a4⟩
        · obtain ⟨i, hi, hni⟩ := left_one nd hlt (show ix.length < l.length by omega)
          exact absurd (ha i (by omega)) hni
        · exact ⟨a1, a2, a3, fun i hi hni => a4 i (by omega) hni⟩
      have hpl : p.toNat < l.length := by omega
      have ep : getC l p.toNat = l[p.toNat] := by unfold getC; rw [List.getElem?_eq_getElem hpl]; rfl
      refine Sd_intro (show 0 ≤ p ∧ p < (l.length : Int) by omega) ?_
      refine StC_idx hrow5 rfl (hrd p.toNat hpl) (fun w6 h6 f6 s6 => ?_)
      rw [Nat.zero_add, Nat.mul_one, bools_set] at h6
      have f46 : Fr (· = dr) w4 w6 := f5.noL f6
      have F6 : Fr No w w6 := F4.new f46 (fun _ _ e => e) (fun k e => by have := f2.size; omega)
      have own6 : Own w6 w.heap.size vo4 L4 := own_keepV own4 f46 (fun k e1 e2 => ndr k e1 e2)
      have hC6 := h.keep F6 (fun _ _ => id)
      obtain ⟨x1, e1, hx1⟩ := hC6.cell rfl hpl
      subst e1
      refine Sd_intro (show 0 ≤ p ∧ p < (l.length : Int) by omega) ?_
      refine LdN_cells (vs := candL l[p.toNat]) hx1 rfl ?_
      refine CallC_intro (live18_spec l[p.toNat] w6) (fun v w7 ⟨hv, f7⟩ => ?_)
      subst hv
      have F7 := F6.no f7
      have own7 := own6.keep f7 (fun _ _ => id)
      have h7 := h6.keep f7 id
      refine Br_dec (fun g3 => ?_) (fun g3 => ?_)
      · have g3 : liveK l[p.toNat] > bud := g3
        refine fin w7 F7 own7 (fun i hi hni => ?_)
        have := ha i hi hni
        rw [cmpK_neg, ep] at this
        omega
      · have g3 : ¬ liveK l[p.toNat] > bud := g3
        have lg := liveK_ge l[p.toNat]
        obtain ⟨m1, m2, m3, m4, m5⟩ := pick_more nd hlt hsP hcr hbQ hpl hp2 ha (by rw [ep]; exact g3)
        have hC7 := h.keep F7 (fun _ _ => id)
        obtain ⟨y1, e1, hy1⟩ := hC7.cell rfl hpl
        injection e1 with e1
        subst e1
        refine Sd_intro (show 0 ≤ p ∧ p < (l.length : Int) by omega) ?_
        refine LdN_cells (vs := candL l[p.toNat]) hy1 rfl ?_
        refine CallC_intro (live18_spec l[p.toNat] w7) (fun v w8 ⟨hv, f8⟩ => ?_)
        subst hv
        have F8 := F7.no f8
        have own8 := own7.keep f8 (fun _ _ => id)
        have h8 := h7.keep f8 id
        have ew : IntKind.i64.wrap (bud - liveK l[p.toNat]) = bud - liveK l[p.toNat] := wrap_i64 (by omega) (by omega)
        have hC8 := h.keep F8 (fun _ _ => id)
        obtain ⟨y2, e2, hy2⟩ := hC8.cell rfl hpl
        injection e2 with e2
        subst e2
        refine Sd_intro (show 0 ≤ p ∧ p < (l.length : Int) by omega) ?_
        refine LdC_intro (v := .int .i64 l[p.toNat].1) (hy2 0 _ rfl) ?_
        refine CallC_intro (add18_spec vo4 L4 l[p.toNat].1 w8 own8 F8.size (by omega) hs4) (fun r w9 ⟨⟨L9, own9, hl9, hs9, hm9⟩, hloc, f9⟩ => ?_)
        have F9 : Fr No w w9 := F8.new f9 (fun _ _ e => e) (fun k e => own_ge own8 k e)
        have h9 := h8.keep f9 (fun e => ndr dr e rfl)
        have sz6 := f46.size
        have sz7 := f7.size
        have sz8 := f8.size
        have sz9 := f9.size
        refine ⟨(l.length - (k + 1)).toNat, _, by omega, ?_, (k + 1, bud - liveK l[p.toNat], r), rfl, F9, by show 0 ≤ k + 1; omega, by show k + 1 ≤ (l.length : Int); omega, ⟨ix ++ [p.toNat], ?_, m1, m2, m3, m4, ?_, ?_, L9, own9, ?_, hs9, fun x => ?_⟩, fun k' e => ?_, ?_, by omega, rfl⟩
        · exact ⟨rfl, look_int rfl ew, rfl, rfl, look_int rfl (wrap_i64 (by omega) (by omega)), trivial⟩
        · show ((ix ++ [p.toNat]).length : Int) = k + 1
          rw [List.length_append]; simp; omega
        · intro Q
          show _ = _ ++ takeB (bud - liveK l[p.toNat]) Q
          rw [← ep]; exact m5 Q
        · have e : bools (upd (fun j => decide (j ∈ ix)) p.toNat true) l.length = bools (fun j => decide (j ∈ ix ++ [p.toNat])) l.length := bools_congr fun j hj => by
            unfold upd
            by_cases e : j = p.toNat
            · rw [if_pos e, eq_comm, decide_eq_true_iff]; simp [e]
            · rw [if_neg e, decide_eq_decide]; simp [e]
          rw [← e]; exact h9
        · show (L9.length : Int) ≤ young.length + (k + 1)
          omega
        · rw [hm9, hm4]
          have : picks l (ix ++ [p.toNat]) = picks l ix ++ [getC l p.toNat] := by simp [picks]
          rw [this, List.map_append, List.mem_append, ep]
          simp only [List.map_cons, List.map_nil, List.mem_singleton]
          rw [or_assoc]
        · rcases hloc with hh | hh
          · exact ndr k' (by rw [← hh]; exact e)
          · have := hh k' e
            omega
        · show -9223372036854775808 ≤ bud - liveK l[p.toNat] ∧ bud - liveK l[p.toNat] ≤ 9223372036854775807
          omega
  · have g1 : ¬ k < (l.length : Int) := g1
    refine fin w4 F4 own4 (fun j hj hnj => ?_)
    have : l.length ≤ ix.length := by omega
    exfalso
    have h1 := (split_perm nd hlt).length_eq
    rw [List.length_append, List.length_range] at h1
    have h2 : j ∈ (List.range l.length).filter (fun j => !decide (j ∈ ix)) := List.mem_filter.2 ⟨List.mem_range.2 hj, by simp [hnj]⟩
    have := List.length_pos_of_mem h2
    omega
end Go.Proofs.Ytfokdnmidfmddaa
