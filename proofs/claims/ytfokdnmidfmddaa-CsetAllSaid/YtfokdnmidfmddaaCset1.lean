/- Layer 18 (cset): what the library's small functions do. -/
import Derived.Test.YtfokdnmidfmddaaVcL
import Derived.Test.YtfokdnmidfmddaaSortW
namespace Go.Vc
open Go.Sort
/-- append of a row that came in, or lies anywhere. -/
theorem ApA {P : Program} {T : Tab} (hT : T.Ok P) {t ty e : Nat} {q : Rec} (ht : T.d t = .slice e) (hq : look T.recs e = some q) (hz : q.zero.length = q.size) (hs : 0 < q.size)
    {w : World} {base n m c : Nat} {x : Addr} {v : Value} {xs news : List Value} {K : Value → World → Prop} (own : w.ownsRow base e q.size v n xs) (hbase : base ≤ w.heap.size)
    (hcell : ∀ j u, news[j]? = some u → w.cell? (x.add j) = some u) (hl : news.length = m * q.size) (h1 : news.all Value.oneCell' = true)
    (h63 : n + m ≤ 9223372036854775807) (hbytes : (n + m) * q.bytes ≤ 140737488355328)
    (k : ∀ v' w', w'.ownsRow base e q.size v' (n + m) (xs ++ news) → Fr (fun k => v.ownBlock = some k) w w' → K v' w') :
    RunC P (Builtin.append_ #[t, t] ty #[v, .slice (some x) m c]) w K := by
  obtain ⟨_, i, zv, hi, his, hby, hzv, hc⟩ := hT.recs e q hq
  have hzs : zv.cells.size = q.size := by rw [← Array.length_toList, hc, hz]
  obtain ⟨v', w', hr, ho, hg, _, _⟩ := run_append_own_at (P := P) w base t ty e i zv q.size q.bytes (und_slice hT ht) hi hzv his hby hzs hs v n xs own x m c news hl hcell (fun u hu => List.all_eq_true.1 h1 u hu) (by simpa [maxLen] using h63) hbytes hbase
  exact RunC_intro hr (k v' w' ho ⟨hg.os, hg.tape, hg.output, hg.size, fun j hj hn => hg.block j hj (fun e => hn e.symm)⟩)
/-- An empty row, made. -/
theorem own_empty {w : World} {base b t size : Nat} (h : Blk w b t []) (hb : base ≤ b) : w.ownsRow base t size (.slice (some ⟨b, 0, none⟩) 0 0) 0 [] :=
  ⟨by simp, .inr ⟨b, 0, #[], rfl, hb, h, Nat.le_refl _, Nat.zero_le _, by simp, by simp⟩⟩
/-- What only draws, and lays new blocks. -/
def Ex' (w w' : World) : Prop := ∃ q os, w' = grow (w.drewN q) os
theorem NewC_ex {w : World} {cs : List Value} {t : TypeId} {K : Nat → World → Prop} (k : ∀ b w', b = w.heap.size → Blk w' b t cs → Fr No w w' → w'.heap.size = b + 1 → w' = w.alloc (.cells cs.toArray t) → K b w') : NewC w (.cells cs.toArray t) K :=
  NewC_intro (NewC_elim (NewC_blk (fun b w' hb h1 f s => show w' = w.alloc (.cells cs.toArray t) → b = w.heap.size → K b w' from fun e _ => k b w' hb h1 f s e)) rfl rfl)
theorem Ex'.refl (w : World) : Ex' w w := ⟨0, #[], by simp [World.drewN]⟩
theorem Ex'.new {w w1 : World} (h : Ex' w w1) (o : Obj) : Ex' w (w1.alloc o) := by
  obtain ⟨q, os, rfl⟩ := h
  exact ⟨q, os ++ #[o], by rw [alloc_eq_grow, grow_grow]⟩
theorem Ex'.drew {w w1 : World} (h : Ex' w w1) : Ex' w w1.drew := by
  obtain ⟨q, os, rfl⟩ := h
  exact ⟨q + 1, os, by simp [World.drewN, World.drew, grow, Nat.add_assoc]⟩
theorem Ex'.fr {w w1 : World} (h : Ex' w w1) : Fr No w w1 := by
  obtain ⟨q, os, rfl⟩ := h
  refine ⟨rfl, rfl, rfl, by simp [grow, World.drewN], fun k hk _ => ?_⟩
  show (w.heap ++ os)[k]? = _
  rw [Array.getElem?_append, if_pos hk]
end Go.Vc
namespace Go.Proofs.Ytfokdnmidfmddaa
open Go.Vc Go.Sort

def cmpI (x y : Int) : Int := if x < y then -1 else if x > y then 1 else 0
theorem isNaN_spec (x : Int) (w : World) : CallC Pr f_cmp_isNaN_int_ [.int .i64 x] w (fun v w' => v = .bool false ∧ w' = w) := by
  refine call_sound T_ok fun_cmp_isNaN_int_ rfl (by kernel_rfl) rfl (Kp ?_)
  refine ⟨?_, rfl⟩
  rw [decide_eq_true rfl]; rfl
theorem Compare_spec (x y : Int) (w : World) : CallC Pr f_cmp_Compare_int_ [.int .i64 x, .int .i64 y] w (fun v w' => v = .int .i64 (cmpI x y) ∧ w' = w) := by
  refine call_sound T_ok fun_cmp_Compare_int_ rfl (by kernel_rfl) rfl (Kp ?_)
  refine CallC_intro (isNaN_spec x w) (fun v w1 ⟨hv, hw⟩ => ?_)
  subst hv; subst hw
  refine CallC_intro (isNaN_spec y w1) (fun v w2 ⟨hv, hw⟩ => ?_)
  subst hv; subst hw
  refine Br_dec (fun g => ?_) (fun g => ?_)
  · have g : x < y := g
    exact ⟨by unfold cmpI; rw [if_pos g]; rfl, rfl⟩
  refine Br_dec (fun g2 => ?_) (fun g2 => ?_)
  · have g : ¬ x < y := g
    have g2 : x > y := g2
    exact ⟨by unfold cmpI; rw [if_neg g, if_pos g2]; rfl, rfl⟩
  · have g : ¬ x < y := g
    have g2 : ¬ x > y := g2
    exact ⟨by unfold cmpI; rw [if_neg g, if_neg g2]; rfl, rfl⟩
theorem Or_spec {b t : Nat} (x y : Int) (w : World) (h : Blk w b t [.int .i64 x, .int .i64 y]) :
    CallC Pr f_cmp_Or_int_ [.slice (some ⟨b, 0, none⟩) 2 2] w (fun v w' => v = .int .i64 (if x = 0 then y else x) ∧ w' = w) := by
  refine call_sound T_ok fun_cmp_Or_int_ rfl (by kernel_rfl) rfl (Kp ?_)
  refine LoopC_intro (α := Int) (fun k => [(6, .slice (some ⟨b, 0, none⟩) 2 2), (7, .int .i64 2), (3, .int .i64 0), (8, .int .i64 k)])
    (fun m k w2 => w2 = w ∧ 0 ≤ k ∧ k ≤ 2 ∧ (1 ≤ k → x = 0) ∧ (2 ≤ k → y = 0) ∧ m = (2 - k).toNat)
    2 0 ⟨rfl, rfl, rfl, rfl, trivial⟩ ⟨rfl, Int.le_refl _, by decide, fun h => by omega, fun h => by omega, rfl⟩ (fun m k w2 hJ => Kp ?_)
  obtain ⟨rfl, k0, k1, hx, hy, hm⟩ := hJ
  have k0 : 0 ≤ k := k0
  have k1 : k ≤ 2 := k1
  have hx : 1 ≤ k → x = 0 := hx
  have hy : 2 ≤ k → y = 0 := hy
  refine Br_dec (fun g0 => ?_) (fun g0 => ?_)
  · have g0 : k < 2 := g0
    have hc : [Value.int .i64 x, .int .i64 y][0 + k.toNat * 1]? = some (.int .i64 (if k = 0 then x else y)) := by
      rcases (by omega : k = 0 ∨ k = 1) with rfl | rfl
      · rfl
      · rfl
    refine Sd_intro (show 0 ≤ k ∧ k < 2 by omega) ?_
    refine LdC_idx h hc ?_
    refine Br_ndec (fun g1 => ?_) (fun g1 => ?_)
    · have g1 : ¬ (if k = 0 then x else y) = 0 := g1
      refine ⟨?_, rfl⟩
      rcases (by omega : k = 0 ∨ k = 1) with rfl | rfl
      · rw [if_pos rfl] at g1 ⊢; rw [if_neg g1]; rfl
      · rw [if_neg (by decide)] at g1 ⊢; rw [if_pos (hx (by decide))]; rfl
    · have g1 : (if k = 0 then x else y) = 0 := g1
      refine ⟨(2 - (k + 1)).toNat, _, by omega, ?_, k + 1, rfl, rfl, (show 0 ≤ k + 1 by omega), (show k + 1 ≤ 2 by omega), fun h => ?_, fun h => ?_, rfl⟩
      · exact ⟨rfl, rfl, rfl, look_int rfl (wrap_i64 (by omega) (by omega)), trivial⟩
      · rcases (by omega : k = 0 ∨ k = 1) with rfl | rfl
        · rw [if_pos rfl] at g1; exact g1
        · exact hx (by decide)
      · have h : 2 ≤ k + 1 := h
        have : k = 1 := by omega
        subst this
        rw [if_neg (by decide)] at g1; exact g1
  · have g0 : ¬ k < 2 := g0
    refine ⟨?_, rfl⟩
    rw [if_pos (hx (by omega)), hy (by omega)]; rfl
def candL (c : Int × Int) : List Value := [.int .i64 c.1, .int .i64 c.2]
def liveK (c : Int × Int) : Int := imax c.2 0
/-- What the order of two candidates is. -/
def cmpK (a b : Int × Int) : Int := if cmpI (liveK a) (liveK b) = 0 then cmpI a.1 b.1 else cmpI (liveK a) (liveK b)
theorem Choose_1_spec (a b : Int × Int) (w : World) : CallC Pr f_cset_Choose_1 [.agg (candL a).toArray, .agg (candL b).toArray] w (fun v w' => v = .int .i64 (cmpK a b) ∧ Ex' w w') := by
  refine call_sound T_ok fun_cset_Choose_1 rfl (by kernel_rfl) rfl (Kp ?_)
  refine NewC_ex (fun p w1 hp h1 f1 s1 e1 => ?_)
  have h1 : Blk w1 p t_cset_Candidate (candL a) := h1
  refine NewC_ex (fun q w2 hq h2 f2 s2 e2 => ?_)
  have h2 : Blk w2 q t_cset_Candidate (candL b) := h2
  have h1 := h1.keep f2 id
  have X2 : Ex' w w2.drew := by rw [e2, e1]; exact (((Ex'.refl w).new _).new _).drew
  refine AnyC_ord [0,1,2,3,4,5,7,8,9,10,1006,1011,1012,1013,14] T_ok mixed (by kernel_rfl) (by kernel_rfl) (Kp ?_)
  refine LdS_blk h1 rfl ?_
  refine LdS_blk h2 rfl ?_
  refine LdS_blk h1 rfl ?_
  refine LdS_blk h2 rfl ?_
  refine ⟨?_, trivial⟩
  refine CallC_intro (Compare_spec (liveK a) (liveK b) _) (fun v w3 ⟨hv, hw⟩ => ?_)
  subst hv; subst hw
  refine Sd_intro (fun _ _ => rfl) ?_
  refine ⟨?_, trivial⟩
  refine CallC_intro (Compare_spec a.1 b.1 _) (fun v w3 ⟨hv, hw⟩ => ?_)
  subst hv; subst hw
  refine Sd_intro (fun _ _ => rfl) ?_
  refine ⟨?_, trivial⟩
  refine NewC_ex (fun r w3 hr h3 f3 s3 e3 => ?_)
  have h3 : Blk w3 r t_int [.int .i64 (cmpI (liveK a) (liveK b)), .int .i64 (cmpI a.1 b.1)] := h3
  refine Sd_intro f3.old ?_
  refine ⟨?_, trivial⟩
  refine CallC_intro (Or_spec (cmpI (liveK a) (liveK b)) (cmpI a.1 b.1) w3 h3) (fun v w4 ⟨hv, hw⟩ => ?_)
  subst hv; subst hw
  refine Sd_intro f3.old ?_
  exact ⟨rfl, by rw [e3]; exact X2.new _⟩
/-- A list of candidates in memory. -/
def candsL (l : List (Int × Int)) : List Value := l.flatMap candL
def OwnC (w : World) (base : Nat) (v : Value) (l : List (Int × Int)) : Prop := w.ownsRow base t_cset_Candidate 2 v l.length (candsL l)
def Cands (w : World) (v : Value) (l : List (Int × Int)) : Prop := ∃ (a : Option Addr) (c : Nat), v = .slice a l.length c ∧ (a = none → l = []) ∧ ∀ x, a = some x → ∀ (i : Nat) (z : Int × Int), l[i]? = some z → w.cell? (x.add (i * 2)) = some (.int .i64 z.1) ∧ w.cell? (x.add (i * 2 + 1)) = some (.int .i64 z.2)
theorem candsL_len (l : List (Int × Int)) : (candsL l).length = l.length * 2 := by
  induction l with
  | nil => rfl
  | cons x l ih => show (candL x ++ candsL l).length = _; rw [List.length_append, ih]; simp [candL]; omega
theorem candsL_get : ∀ {l : List (Int × Int)} {i : Nat} {z : Int × Int}, l[i]? = some z → (candsL l)[i * 2]? = some (.int .i64 z.1) ∧ (candsL l)[i * 2 + 1]? = some (.int .i64 z.2) := by
  intro l
  induction l with
  | nil => intro i z h; cases h
  | cons x l ih =>
    intro i z h
    cases i with
    | zero => simp only [List.getElem?_cons_zero, Option.some.injEq] at h; subst h; exact ⟨rfl, rfl⟩
    | succ i =>
      have := ih (i := i) (z := z) (by simpa using h)
      rw [show (i + 1) * 2 = i * 2 + 2 by omega]
      exact this
theorem candsL_app (a b : List (Int × Int)) : candsL (a ++ b) = candsL a ++ candsL b := by simp [candsL]
theorem candsL_one (l : List (Int × Int)) : (candsL l).all Value.oneCell' = true := by
  induction l with
  | nil => rfl
  | cons x l ih => show (candL x ++ candsL l).all _ = true; rw [List.all_append, ih]; rfl
theorem OwnC.cands {w : World} {base : Nat} {v : Value} {l : List (Int × Int)} (h : OwnC w base v l) : Cands w v l := by
  rcases own_cases h with ⟨rfl, h0, h1⟩ | ⟨g, cap, cur, hv, hb, hblk, ht, hn⟩
  · have : l = [] := List.eq_nil_of_length_eq_zero h0
    subst this
    exact ⟨none, 0, rfl, fun _ => rfl, fun x e => by cases e⟩
  · refine ⟨some ⟨g, 0, none⟩, cap, hv, (fun e => by cases e), fun x e i z hi => ?_⟩
    injection e with e
    subst e
    have := candsL_get hi
    rw [← ht, List.getElem?_take, List.getElem?_take] at this
    have hil := (List.getElem?_eq_some_iff.1 hi).1
    rw [if_pos (by omega), if_pos (by omega)] at this
    rw [add_of, add_of, Nat.zero_add, Nat.zero_add]
    exact ⟨hblk.cell this.1, hblk.cell this.2⟩
theorem Cands.keep {w w' : World} {v : Value} {l : List (Int × Int)} {F : Nat → Prop} (h : Cands w v l) (f : Fr F w w') (hF : ∀ k, v.ownBlock = some k → ¬ F k) : Cands w' v l := by
  obtain ⟨a, c, rfl, hn, h⟩ := h
  refine ⟨a, c, rfl, hn, fun x ex i z hi => ?_⟩
  subst ex
  have kp : ∀ {n : Nat} {u : Value}, w.cell? (x.add n) = some u → w'.cell? (x.add n) = some u := by
    intro n u h1
    have hb := World.block_lt_of_cell? w (x.add n) h1
    have eb : (x.add n).block = x.block := by unfold Addr.add; split <;> rfl
    unfold World.cell? at h1 ⊢
    rw [f.blk (x.add n).block hb (by rw [eb]; exact hF x.block rfl)]; exact h1
  exact ⟨kp (h x rfl i z hi).1, kp (h x rfl i z hi).2⟩
theorem ints_one (l : List Int) : (ints l).all Value.oneCell' = true := by
  induction l with
  | nil => rfl
  | cons x l ih => show (_ && _) = true; exact ih
theorem Clone_int_spec (v : Value) (l : List Int) (w : World) (h : Ints w v l) (hl : l.length ≤ 1000000) :
    CallC Pr f_slices_Clone___int_int_ [v] w (fun r w' => Own w' w.heap.size r l ∧ Fr No w w') := by
  obtain ⟨a, c, rfl, h⟩ := h
  cases a with
  | none =>
    have : l = [] := by
      rcases h with h | ⟨x, hx, _⟩
      · exact h
      · cases hx
    subst this
    refine call_sound T_ok fun_slices_Clone___int_int_ rfl (by kernel_rfl) rfl (Kp ?_)
    exact ⟨Own.nil _ _, Fr.refl _ _⟩
  | some x =>
    refine call_sound T_ok fun_slices_Clone___int_int_ rfl (by kernel_rfl) rfl (Kp ?_)
    refine NewC_blk (fun b w1 hb h1 f1 s1 => ?_)
    refine ApA T_ok (base := w.heap.size) (n := 0) (xs := []) (news := ints l) rfl rfl rfl (by decide) (own_empty h1 (by omega)) (by omega) (fun j u hj => ?_) (by rw [ints_len]; exact (Nat.mul_one _).symm) (ints_one l) (by omega) (show (0 + l.length) * 8 ≤ _ by omega) (fun r w2 own2 f2 => ?_)
    · rcases h with h | ⟨x', hx, h⟩
      · subst h; cases hj
      · injection hx with hx
        subst hx
        unfold ints at hj
        rw [List.getElem?_map] at hj
        cases hz : l[j]? with
        | none => rw [hz] at hj; cases hj
        | some z =>
          rw [hz] at hj
          injection hj with hj
          subst hj
          have h1 := h j z hz
          have hb := World.block_lt_of_cell? w (x.add j) h1
          unfold World.cell? at h1 ⊢
          rw [f1.blk _ hb id]; exact h1
    · refine ⟨?_, f1.new f2 (fun _ _ e => e) (fun k e => ?_)⟩
      · have := own2
        rw [Nat.zero_add, List.nil_append] at this
        exact this
      · have e : some b = some k := e
        injection e with e
        omega
theorem Clone_cand_spec (v : Value) (l : List (Int × Int)) (w : World) (h : Cands w v l) (hl : l.length ≤ 1000000) :
    CallC Pr f_slices_Clone___cset_Candidate_cset_Candidate_ [v] w (fun r w' => OwnC w' w.heap.size r l ∧ Fr No w w') := by
  obtain ⟨a, c, rfl, hn, h⟩ := h
  cases a with
  | none =>
    have := hn rfl
    subst this
    refine call_sound T_ok fun_slices_Clone___cset_Candidate_cset_Candidate_ rfl (by kernel_rfl) rfl (Kp ?_)
    exact ⟨World.ownsRow_nil _ _ _ _, Fr.refl _ _⟩
  | some x =>
    refine call_sound T_ok fun_slices_Clone___cset_Candidate_cset_Candidate_ rfl (by kernel_rfl) rfl (Kp ?_)
    refine NewC_blk (fun b w1 hb h1 f1 s1 => ?_)
    refine ApA T_ok (base := w.heap.size) (n := 0) (xs := []) (news := candsL l) rfl rfl rfl (by decide) (own_empty h1 (by omega)) (by omega) (fun j u hj => ?_) (by rw [candsL_len]) (candsL_one l) (by omega) (show (0 + l.length) * 16 ≤ _ by omega) (fun r w2 own2 f2 => ?_)
    · have hj' := (List.getElem?_eq_some_iff.1 hj).1
      rw [candsL_len] at hj'
      have hi : j / 2 < l.length := by omega
      have h1 := h x rfl (j / 2) _ (List.getElem?_eq_getElem hi)
      have h2 := candsL_get (List.getElem?_eq_getElem hi)
      have h1 : w.cell? (x.add j) = some u := by
        rcases (by omega : j = j / 2 * 2 ∨ j = j / 2 * 2 + 1) with e | e
        · rw [e] at hj ⊢
          rw [h1.1, ← h2.1]
          simpa using hj
        · rw [e] at hj ⊢
          rw [h1.2, ← h2.2]
          have e2 : (j / 2 * 2 + 1) / 2 = j / 2 := by omega
          simpa [e2] using hj
      have hb := World.block_lt_of_cell? w (x.add j) h1
      unfold World.cell? at h1 ⊢
      rw [f1.blk _ hb id]; exact h1
    · refine ⟨?_, f1.new f2 (fun _ _ e => e) (fun k e => ?_)⟩
      · have := own2
        rw [Nat.zero_add, List.nil_append] at this
        exact this
      · have e : some b = some k := e
        injection e with e
        omega
end Go.Proofs.Ytfokdnmidfmddaa
