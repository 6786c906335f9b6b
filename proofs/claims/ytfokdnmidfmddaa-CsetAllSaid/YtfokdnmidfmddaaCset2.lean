/- Layer 18 (cset): Compact, Index, Contains, IndexFunc, DeleteFunc. -/
import Derived.Test.YtfokdnmidfmddaaCset1
namespace Go.Vc
theorem over_take (vs : List Value) (o : Nat) (cs : List Value) (h : o + vs.length ≤ cs.length) : (over cs o vs).take o = cs.take o := by
  apply List.ext_getElem?
  intro k
  rw [List.getElem?_take, List.getElem?_take]
  by_cases hk : k < o
  · rw [if_pos hk, if_pos hk, over_get vs o cs k h, if_neg (by omega)]
  · rw [if_neg hk, if_neg hk]
/-- clear, of elements of any size: what stands ahead of it stays. -/
theorem ClrK {P : Program} {T : Tab} (hT : T.Ok P) {t ty e : Nat} {q : Rec} (ht : T.d t = .slice e) (hq : look T.recs e = some q) (hz : q.zero.length = q.size) (h1 : q.zero.all Value.oneCell' = true)
    {w : World} {b te o n c : Nat} {cs : List Value} {K : Value → World → Prop} (hb : Blk w b te cs) (hl : o + n * q.size ≤ cs.length)
    (k : ∀ w' cs', Blk w' b te cs' → cs'.length = cs.length → cs'.take o = cs.take o → Fr (· = b) w w' → K (.tuple #[]) w') :
    RunC P (Builtin.clear_ #[t] ty #[.slice (some ⟨b, o, none⟩) n c]) w K := by
  obtain ⟨_, i, zv, hi, hs, hby, hzv, hc⟩ := hT.recs e q hq
  have hcells : zv.cells = q.zero.toArray := by apply Array.toList_inj.1; rw [hc]
  cases n with
  | zero =>
    refine RunC_intro (v := .tuple #[]) (w' := w) ?_ (k w cs hb rfl rfl (Fr.refl _ _))
    simp [Builtin.clear_, run_underlying (und_slice hT ht)]
  | succ n =>
    have hlen : (Builtin.zeroCells q.zero.toArray (n + 1)).toList.length = (n + 1) * q.size := by simp [Builtin.zeroCells, hz]
    have hall : (Builtin.zeroCells q.zero.toArray (n + 1)).toList.all Value.oneCell' = true := by
      rw [List.all_eq_true]
      intro v hv
      simp only [Builtin.zeroCells, Array.toList_map, Array.toList_range, List.mem_map, List.mem_range, List.size_toArray] at hv
      obtain ⟨j, hj, rfl⟩ := hv
      have h0 : 0 < q.zero.length := by
        rcases Nat.eq_zero_or_pos q.zero.length with e | e
        · rw [e] at hj; omega
        · exact e
      have hm := Nat.mod_lt j h0
      rw [List.all_eq_true] at h1
      have : q.zero.toArray[j % q.zero.length]! = q.zero[j % q.zero.length] := by
        rw [getElem!_pos q.zero.toArray _ (by simpa using hm)]; simp
      rw [this]
      exact h1 _ (List.getElem_mem hm)
    obtain ⟨w', hk, hr⟩ := StN_run (P := P) _ _ _ (StN_blk (K := fun w' => K (.tuple #[]) w') hb (vs := (Builtin.zeroCells q.zero.toArray (n + 1)).toList) hall (by rw [hlen]; exact hl)
      (fun w' hb' f s => k w' _ hb' (over_len _ _ _) (over_take _ _ _ (by rw [hlen]; exact hl)) f))
    refine RunC_intro ?_ hk
    simp [Builtin.clear_, run_underlying (und_slice hT ht), zeroValue, typeInfo, hi, hzv, hcells, hr]
end Go.Vc
namespace Go.Proofs.Ytfokdnmidfmddaa
open Go.Vc Go.Sort

/-- Neighbours that are alike are one. -/
def ddN (l : List Int) : Nat → List Int
  | 0 => []
  | n + 1 => match l[n]? with
    | none => ddN l n
    | some x => if 0 < n ∧ l[n - 1]? = some x then ddN l n else ddN l n ++ [x]
theorem ddN_len (l : List Int) : ∀ n, (ddN l n).length ≤ n := by
  intro n
  induction n with
  | zero => exact Nat.le_refl 0
  | succ n ih =>
    unfold ddN
    split
    · omega
    · split
      · omega
      · simp; omega
theorem ddN_eq {l : List Int} {n : Nat} {x : Int} (h : l[n]? = some x) (h0 : 0 < n) (h1 : l[n - 1]? = some x) : ddN l (n + 1) = ddN l n := by
  rw [show ddN l (n + 1) = (match l[n]? with | none => ddN l n | some x => if 0 < n ∧ l[n - 1]? = some x then ddN l n else ddN l n ++ [x]) from rfl, h]
  simp only
  rw [if_pos ⟨h0, h1⟩]
theorem ddN_ne {l : List Int} {n : Nat} {x : Int} (h : l[n]? = some x) (h1 : ¬ (0 < n ∧ l[n - 1]? = some x)) : ddN l (n + 1) = ddN l n ++ [x] := by
  rw [show ddN l (n + 1) = (match l[n]? with | none => ddN l n | some x => if 0 < n ∧ l[n - 1]? = some x then ddN l n else ddN l n ++ [x]) from rfl, h]
  simp only
  rw [if_neg h1]
theorem ints_getI {l : List Int} {cur : List Value} {n : Nat} (h : cur.take (n * 1) = ints l) {i : Nat} (hi : i < l.length) (hn : l.length ≤ n) : cur[i]? = some (.int .i64 l[i]) := by
  have := ints_get? (List.getElem?_eq_getElem hi)
  rw [← h, List.getElem?_take, if_pos (by omega)] at this
  exact this
theorem Compact_spec {base : Nat} (v : Value) (l : List Int) (w : World) (own : Own w base v l) (hl : l.length ≤ 1000000) :
    CallC Pr f_slices_Compact___int_int_ [v] w (fun r w' => Own w' base r (ddN l l.length) ∧ (∀ k, r.ownBlock = some k → v.ownBlock = some k) ∧ Fr (fun k => v.ownBlock = some k) w w') := by
  rcases own_cases own with ⟨rfl, h0, _⟩ | ⟨g, cap, cur, rfl, hbg, hb, ht, hn⟩
  · have : l = [] := List.eq_nil_of_length_eq_zero h0
    subst this
    refine call_sound T_ok fun_slices_Compact___int_int_ rfl (by kernel_rfl) rfl (Kp ?_)
    exact ⟨Own.nil _ _, fun k e => e, Fr.refl _ _⟩
  · refine call_sound T_ok fun_slices_Compact___int_int_ rfl (by kernel_rfl) rfl (Kp ?_)
    have cl : l.length ≤ cur.length := by
      have := congrArg List.length ht
      rw [ints_len, List.length_take] at this
      omega
    have clc : cur.length = cap := by
      obtain ⟨_, h | ⟨g', cap', cur0, hv, _, hc, _, _, hs, _⟩⟩ := own
      · cases h.1
      · injection hv with hv1 _ hv3
        injection hv1 with hv1
        injection hv1 with hv1 _ _
        subst hv1 hv3
        unfold Blk at hb
        rw [hb] at hc
        injection hc with hc
        injection hc with hc _ _
        rw [← hc] at hs
        simpa using hs
    refine Br_dec (fun g0 => ?_) (fun g0 => ?_)
    · have g0 : (l.length : Int) < 2 := g0
      refine ⟨?_, fun k e => e, Fr.refl _ _⟩
      have : ddN l l.length = l := by
        match l, g0 with
        | [], _ => rfl
        | [x], _ => rfl
        | x :: y :: r, g => exact absurd g (by simp; omega)
      rw [this]; exact own
    have g0 : ¬ (l.length : Int) < 2 := g0
    refine LoopC_intro (α := Int) (fun k => [(0, .slice (some ⟨g, 0, none⟩) l.length cap), (3, .int .i64 k)])
      (fun m k w2 => Fr No w w2 ∧ 1 ≤ k ∧ k ≤ l.length ∧ ddN l k.toNat = l.take k.toNat ∧ m = (l.length - k).toNat)
      (l.length - 1 : Int).toNat 1 ⟨rfl, rfl, trivial⟩ ⟨Fr.refl _ _, Int.le_refl _, by omega, ?_, rfl⟩ (fun m k w2 hJ => Kp ?_)
    · match l, g0 with
      | [], g => exact absurd (by decide) g
      | x :: r, _ => rfl
    obtain ⟨f2, k0, k1, hk, hm⟩ := hJ
    have k0 : 1 ≤ k := k0
    have k1 : k ≤ l.length := k1
    have hk : ddN l k.toNat = l.take k.toNat := hk
    have hb2 := hb.keep f2 id
    refine Br_dec (fun g1 => ?_) (fun g1 => ?_)
    · have g1 : k < (l.length : Int) := g1
      have ek : IntKind.i64.wrap (k - 1) = k - 1 := wrap_i64 (by omega) (by omega)
      have hi : k.toNat < l.length := by omega
      have hi' : k.toNat - 1 < l.length := by omega
      refine AnyC_lex T_ok mixed (by kernel_rfl) (by kernel_rfl) (Kp ?_)
      refine Sd_intro (show 0 ≤ k ∧ k < (l.length : Int) by omega) ?_
      refine LdS_idx hb2 (v := .int .i64 l[k.toNat]) (by rw [Nat.zero_add, Nat.mul_one]; exact ints_getI ht hi (Nat.le_refl _)) ?_
      refine Sd_intro (show 0 ≤ IntKind.i64.wrap (k - 1) ∧ IntKind.i64.wrap (k - 1) < (l.length : Int) by omega) ?_
      refine LdS_idx hb2 (v := .int .i64 l[k.toNat - 1]) (by rw [Nat.zero_add, Nat.mul_one, ek, show (k - 1).toNat = k.toNat - 1 by omega]; exact ints_getI ht hi' (Nat.le_refl _)) ?_
      refine Br_dec (fun g2 => ?_) (fun g2 => ?_)
      · have g2 : l[k.toNat] = l[k.toNat - 1] := g2
        -- two are alike: the rest moves up
        have hb3 := hb2.keep (Fr.drew w2) id
        have F3 := f2.drew'
        refine Sd_intro (show 0 ≤ k ∧ k ≤ (l.length : Int) ∧ (l.length : Int) ≤ cap by omega) ?_
        have es : (Value.slice (cutA (some ⟨g, 0, none⟩) cap k.toNat 1) ((l.length : Int).toNat - k.toNat) (cap - k.toNat)) = .slice (some ⟨g, k.toNat, none⟩) (l.length - k.toNat) (cap - k.toNat) := by
          unfold cutA
          rw [if_neg (by omega)]
          simp [add_of]
        refine LoopC_intro (α := Int × Int) (fun q => [(0, .slice (some ⟨g, 0, none⟩) l.length cap), (3, .int .i64 q.1), (4, .slice (some ⟨g, k.toNat, none⟩) (l.length - k.toNat) (cap - k.toNat)), (5, .int .i64 q.2)])
          (fun m q w4 => Fr (· = g) w w4 ∧ 1 ≤ q.1 ∧ 1 ≤ q.2 ∧ q.1 < k + q.2 ∧ k + q.2 ≤ l.length ∧ (∃ c4, Blk w4 g t_int c4 ∧ c4.length = cur.length ∧ c4.take q.1.toNat = ints (ddN l (k + q.2).toNat) ∧ (ddN l (k + q.2).toNat).length = q.1.toNat ∧ ∀ i : Nat, k + q.2 ≤ i + 1 → i < l.length → c4[i]? = cur[i]?) ∧ m = (l.length - (k + q.2)).toNat)
          (l.length - (k + 1)).toNat (k, 1) ⟨rfl, rfl, by rw [← es]; rfl, rfl, trivial⟩ ⟨?_, k0, Int.le_refl _, by show k < k + 1; omega, by show k + 1 ≤ _; omega, ⟨cur, hb3, rfl, ?_, ?_, fun _ _ _ => rfl⟩, rfl⟩ (fun m q w4 hJ => Kp ?_)
        · exact F3.weak (fun _ _ e => e.elim)
        · show cur.take k.toNat = ints (ddN l (k + 1).toNat)
          rw [show (k + 1).toNat = k.toNat + 1 by omega, ddN_eq (List.getElem?_eq_getElem hi) (by omega) (by rw [List.getElem?_eq_getElem hi', g2]), hk]
          have := congrArg (List.take k.toNat) ht
          rw [List.take_take, Nat.min_eq_left (by omega)] at this
          rw [this]; simp [ints, List.map_take]
        · show (ddN l (k + 1).toNat).length = k.toNat
          rw [show (k + 1).toNat = k.toNat + 1 by omega, ddN_eq (List.getElem?_eq_getElem hi) (by omega) (by rw [List.getElem?_eq_getElem hi', g2]), hk, List.length_take]
          omega
        obtain ⟨f4, a0, b0, ab, bn, ⟨c4, hb4, hl4, hp4, hd4, hr4⟩, hm4⟩ := hJ
        obtain ⟨a, b⟩ := q
        have a0 : 1 ≤ a := a0
        have b0 : 1 ≤ b := b0
        have ab : a < k + b := ab
        have bn : k + b ≤ l.length := bn
        have hp4 : c4.take a.toNat = ints (ddN l (k + b).toNat) := hp4
        have hd4 : (ddN l (k + b).toNat).length = a.toNat := hd4
        have hr4 : ∀ i : Nat, k + b ≤ i + 1 → i < l.length → c4[i]? = cur[i]? := hr4
        refine Br_dec (fun g3 => ?_) (fun g3 => ?_)
        · have g3 : b < ((l.length - k.toNat : Nat) : Int) := g3
          have eb : IntKind.i64.wrap (b - 1) = b - 1 := wrap_i64 (by omega) (by omega)
          have hj : (k + b).toNat < l.length := by omega
          have hj' : (k + b).toNat - 1 < l.length := by omega
          have c1 : c4[(k + b).toNat]? = some (.int .i64 l[(k + b).toNat]) := by rw [hr4 _ (by omega) hj]; exact ints_getI ht hj (Nat.le_refl _)
          have c2 : c4[(k + b).toNat - 1]? = some (.int .i64 l[(k + b).toNat - 1]) := by rw [hr4 _ (by omega) hj']; exact ints_getI ht hj' (Nat.le_refl _)
          refine AnyC_lex T_ok mixed (by kernel_rfl) (by kernel_rfl) (Kp ?_)
          refine Sd_intro (show 0 ≤ b ∧ b < ((l.length - k.toNat : Nat) : Int) by omega) ?_
          refine LdS_idx hb4 (v := .int .i64 l[(k + b).toNat]) (by rw [Nat.mul_one, show k.toNat + b.toNat = (k + b).toNat by omega]; exact c1) ?_
          refine Sd_intro (show 0 ≤ IntKind.i64.wrap (b - 1) ∧ IntKind.i64.wrap (b - 1) < ((l.length - k.toNat : Nat) : Int) by omega) ?_
          refine LdS_idx hb4 (v := .int .i64 l[(k + b).toNat - 1]) (by rw [Nat.mul_one, eb, show k.toNat + (b - 1).toNat = (k + b).toNat - 1 by omega]; exact c2) ?_
          have hb5 := hb4.keep (Fr.drew w4) id
          refine Br_ndec (fun g4 => ?_) (fun g4 => ?_)
          · have g4 : ¬ l[(k + b).toNat] = l[(k + b).toNat - 1] := g4
            have hdd : ddN l ((k + b).toNat + 1) = ddN l (k + b).toNat ++ [l[(k + b).toNat]] := ddN_ne (List.getElem?_eq_getElem hj) (fun e => g4 (by
              have h2 := e.2
              rw [List.getElem?_eq_getElem hj'] at h2
              injection h2 with h2
              exact h2.symm))
            refine Sd_intro (show 0 ≤ b ∧ b < ((l.length - k.toNat : Nat) : Int) by omega) ?_
            refine LdC_idx hb5 (v := .int .i64 l[(k + b).toNat]) (by rw [Nat.mul_one, show k.toNat + b.toNat = (k + b).toNat by omega]; exact c1) ?_
            refine Sd_intro (show 0 ≤ a ∧ a < (l.length : Int) by omega) ?_
            refine StC_idx hb5 rfl (u := c4[a.toNat]'(by omega)) (by rw [Nat.zero_add, Nat.mul_one]; exact List.getElem?_eq_getElem _) (fun w6 h6 f6 s6 => ?_)
            rw [Nat.zero_add, Nat.mul_one] at h6
            refine ⟨(l.length - (k + (b + 1))).toNat, _, by omega, ?_, (a + 1, b + 1), rfl, ?_, (show 1 ≤ a + 1 by omega), (show 1 ≤ b + 1 by omega), (show a + 1 < k + (b + 1) by omega), (show k + (b + 1) ≤ (l.length : Int) by omega), ⟨_, h6, by rw [List.length_set]; exact hl4, ?_, ?_, fun i h1 h2 => ?_⟩, rfl⟩
            · exact ⟨rfl, look_int rfl (wrap_i64 (by omega) (by omega)), rfl, look_int rfl (wrap_i64 (by omega) (by omega)), trivial⟩
            · exact f4.trans (f6.drewL) (fun _ _ e => e) (fun _ _ e => e)
            · show (c4.set a.toNat _).take (a + 1).toNat = ints (ddN l (k + (b + 1)).toNat)
              rw [show (k + (b + 1)).toNat = (k + b).toNat + 1 by omega, hdd, ints_append, ← hp4, show (a + 1).toNat = a.toNat + 1 by omega]
              rw [List.take_add_one, List.getElem?_set_self (by omega), List.take_set_of_le (Nat.le_refl _)]; rfl
            · show (ddN l (k + (b + 1)).toNat).length = (a + 1).toNat
              rw [show (k + (b + 1)).toNat = (k + b).toNat + 1 by omega, hdd, List.length_append, hd4]
              simp; omega
            · have h1 : k + (b + 1) ≤ i + 1 := h1
              rw [List.getElem?_set_ne (by omega)]
              exact hr4 i (by omega) h2
          · have g4 : l[(k + b).toNat] = l[(k + b).toNat - 1] := g4
            have hdd : ddN l ((k + b).toNat + 1) = ddN l (k + b).toNat := ddN_eq (List.getElem?_eq_getElem hj) (by omega) (by rw [List.getElem?_eq_getElem hj', g4])
            refine ⟨(l.length - (k + (b + 1))).toNat, _, by omega, ?_, (a, b + 1), rfl, f4.drew', a0, (show 1 ≤ b + 1 by omega), (show a < k + (b + 1) by omega), (show k + (b + 1) ≤ (l.length : Int) by omega), ⟨c4, hb5, hl4, ?_, ?_, fun i h1 h2 => hr4 i (by have h1 : k + (b + 1) ≤ i + 1 := h1; omega) h2⟩, rfl⟩
            · exact ⟨rfl, rfl, rfl, look_int rfl (wrap_i64 (by omega) (by omega)), trivial⟩
            · show c4.take a.toNat = ints (ddN l (k + (b + 1)).toNat)
              rw [show (k + (b + 1)).toNat = (k + b).toNat + 1 by omega, hdd]; exact hp4
            · show (ddN l (k + (b + 1)).toNat).length = a.toNat
              rw [show (k + (b + 1)).toNat = (k + b).toNat + 1 by omega, hdd]; exact hd4
        · have g3 : ¬ b < ((l.length - k.toNat : Nat) : Int) := g3
          have ekb : (k + b).toNat = l.length := by omega
          rw [ekb] at hp4 hd4
          refine Sd_intro (show 0 ≤ a ∧ a ≤ (l.length : Int) ∧ (l.length : Int) ≤ cap by omega) ?_
          have es2 : (Value.slice (cutA (some ⟨g, 0, none⟩) cap a.toNat 1) ((l.length : Int).toNat - a.toNat) (cap - a.toNat)) = .slice (some ⟨g, a.toNat, none⟩) (l.length - a.toNat) (cap - a.toNat) := by
            unfold cutA
            rw [if_neg (by omega)]
            simp [add_of]
          rw [es2]
          refine ClrK T_ok rfl rfl rfl rfl hb4 (show a.toNat + (l.length - a.toNat) * 1 ≤ c4.length by omega) (fun w7 c7 h7 l7 t7 f7 => ?_)
          refine Sd_intro (show 0 ≤ (0 : Int) ∧ (0 : Int) ≤ a ∧ a ≤ cap by omega) ?_
          have es3 : (Value.slice (cutA (some ⟨g, 0, none⟩) cap (0 : Int).toNat 1) (a.toNat - (0 : Int).toNat) (cap - (0 : Int).toNat)) = .slice (some ⟨g, 0, none⟩) a.toNat cap := by
            unfold cutA
            rw [if_neg (by show ¬ cap = 0; omega)]
            rfl
          refine ⟨?_, fun k e => ?_, ?_⟩
          · have := own_over (w' := w7) (m := a.toNat) (ys := ints (ddN l l.length)) own hb h7 (by omega) (by omega) (by rw [Nat.mul_one, t7]; exact hp4)
            unfold Own
            rw [es3, hd4]
            exact this
          · rw [es3] at e; exact e
          · exact (f4.trans f7 (fun _ _ e => by rw [e]; rfl) (fun _ _ e => by rw [e]; rfl))
      · have g2 : ¬ l[k.toNat] = l[k.toNat - 1] := g2
        refine ⟨(l.length - (k + 1)).toNat, _, by omega, ?_, k + 1, rfl, f2.drew', (show 1 ≤ k + 1 by omega), (show k + 1 ≤ (l.length : Int) by omega), ?_, rfl⟩
        · exact ⟨rfl, look_int rfl (wrap_i64 (by omega) (by omega)), trivial⟩
        · show ddN l (k + 1).toNat = l.take (k + 1).toNat
          rw [show (k + 1).toNat = k.toNat + 1 by omega, ddN_ne (List.getElem?_eq_getElem hi) (fun e => g2 (by
            have h2 := e.2
            rw [List.getElem?_eq_getElem hi'] at h2
            injection h2 with h2
            exact h2.symm)), hk, List.take_add_one, List.getElem?_eq_getElem hi]; rfl
    · have g1 : ¬ k < (l.length : Int) := g1
      have : k.toNat = l.length := by omega
      rw [this, List.take_length] at hk
      refine ⟨?_, fun k e => e, f2.weak (fun _ _ e => e.elim)⟩
      rw [hk]
      exact own.keep f2 (fun _ _ => id)
end Go.Proofs.Ytfokdnmidfmddaa
