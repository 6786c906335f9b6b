/- Layer 1 (bits): Count, Fill, List. -/
import Derived.Test.YtilhoimokegpjaaDoorBitsD
namespace Go.Proofs.YtilhoimokegpjaaDoor
open Go.Vc

/-- Those of a set from one number on, below another. -/
def within (S : Nat → Bool) (a b : Int) : Nat → Bool := fun p => decide (a ≤ (p : Int) ∧ (p : Int) < b) && S p
theorem Count_nil (a b : Int) (w : World) : CallC Pr f_bits_Set_Count [.pointer none, .int .i64 a, .int .i64 b] w (fun v w' => v = .int .i64 0 ∧ Fr No w w') := by
  refine call_sound T_ok fun_bits_Set_Count rfl (by kernel_rfl) rfl (Kp ?_)
  exact ⟨rfl, Fr.refl _ _⟩
theorem Fill_nil (a b : Int) (on : Bool) (w : World) : CallC Pr f_bits_Set_Fill [.pointer none, .int .i64 a, .int .i64 b, .bool on] w (fun v w' => v = .int .i64 1 ∧ Fr No w w') := by
  refine call_sound T_ok fun_bits_Set_Fill rfl (by kernel_rfl) rfl (Kp ?_)
  exact ⟨rfl, Fr.refl _ _⟩
theorem List_nil (w : World) : CallC Pr f_bits_Set_List [.pointer none] w (fun v w' => v = .slice none 0 0 ∧ Fr No w w') := by
  refine call_sound T_ok fun_bits_Set_List rfl (by kernel_rfl) rfl (Kp ?_)
  refine CallC_intro (Next_nil 0 w) (fun v w1 ⟨hv, f1⟩ => ?_)
  subst hv
  refine LoopC_intro (α := Unit) (fun _ => [(0, .pointer none), (3, .slice none 0 0), (4, .int .i64 (-1))]) (fun m _ w2 => m = 0 ∧ Fr No w w2) 0 () ⟨rfl, rfl, rfl, trivial⟩ ⟨rfl, f1⟩ (fun m q w2 ⟨_, f2⟩ => Kp ?_)
  exact ⟨rfl, f2⟩
theorem Count_spec {b r : Nat} {n : Int} {S : Nat → Bool} (frm to : Int) (w : World) (h : IsBits w b r n S) (hf : frm ≤ 9223372036854775807) :
    CallC Pr f_bits_Set_Count [.pointer (some ⟨b, 0, none⟩), .int .i64 frm, .int .i64 to] w (fun v w' => v = .int .i64 ((cnt (within S frm to) n.toNat : Nat) : Int) ∧ Fr No w w') := by
  obtain ⟨ws, h, he⟩ := h
  have hn := h.n1
  have hn0 := h.n0
  have hlen := h.len
  refine call_sound T_ok fun_bits_Set_Count rfl (by kernel_rfl) rfl (Kp ?_)
  refine AnyC_lex T_ok mixed (by kernel_rfl) (by kernel_rfl) (Kp ?_)
  refine LdS_blk h.tab rfl ?_
  generalize hA : max frm 0 = A
  generalize hB : min to n = B
  have eA : imax frm 0 = A := by rw [imax_eq, hA]
  have eB : imin to n = B := by rw [imin_eq, hB]
  have hF : cnt (within S frm to) n.toNat = cnt (within S A B) n.toNat := cnt_congr fun j hj => by
    unfold within
    congr 1
    exact decide_eq_decide.2 ⟨fun h => by omega, fun h => by omega⟩
  rw [hF]
  refine Sd_intro (by omega) ?_
  have ek : shiftV .shr .i64 (imax frm 0) (6 : Int).toNat = A / 64 := by rw [shr6, eA]
  refine LoopC_intro (α := Int) (fun k => [(0, .pointer (some ⟨b, 0, none⟩)), (1, .int .i64 A), (2, .int .i64 B), (7, .int .i64 ((cnt (within S A B) (64 * k.toNat) : Nat) : Int)), (8, .int .i64 k)])
    (fun m k w2 => IsBitsW w2 b r n ws ∧ Fr No w w2 ∧ A / 64 ≤ k ∧ (k = A / 64 ∨ 64 * k < B + 64) ∧ m = (ws.length + 1 - k).toNat)
    (ws.length + 1 - A / 64 : Int).toNat (A / 64) ⟨rfl, look_int rfl eA, look_int rfl eB, ?_, look_int rfl ek, trivial⟩
    ⟨h.keep (Fr.drew w) id id, Fr.drew w, Int.le_refl _, .inl rfl, rfl⟩ (fun m k w2 hJ => Kp ?_)
  · refine look_int rfl ?_
    rw [cnt_none]
    · rfl
    · intro j hj
      unfold within
      rw [decide_eq_false (by omega)]; rfl
  · obtain ⟨h2, f2, k0, k1, hm⟩ := hJ
    have k0 : A / 64 ≤ k := k0
    have kA : 0 ≤ k := by omega
    have c0 : cnt (within S A B) (64 * k.toNat) ≤ 64 * k.toNat := cnt_le _ _
    have es : shiftV .shl .i64 k (6 : Int).toNat = k * 64 := shl6 (by omega) (by omega)
    refine Sd_intro (by omega) ?_
    have stop : ∀ c : Prop, (¬ (k * 64 < B ∧ A < B)) → cnt (within S A B) (64 * k.toNat) = cnt (within S A B) n.toNat := by
      intro _ hc
      by_cases hAB : A < B
      · have hkB : ¬ k * 64 < B := fun e => hc ⟨e, hAB⟩
        have z : ∀ j : Nat, B ≤ j → within S A B j = false := fun j hj => by
          unfold within; rw [decide_eq_false (by omega)]; rfl
        rcases Nat.le_total n.toNat (64 * k.toNat) with hle | hle
        · exact cnt_more hle (fun j h1 h2 => z j (by omega))
        · exact (cnt_more hle (fun j h1 h2 => z j (by omega))).symm
      · have z : ∀ j : Nat, within S A B j = false := fun j => by
          unfold within; rw [decide_eq_false (by omega)]; rfl
        rw [cnt_none (fun j _ => z j), cnt_none (fun j _ => z j)]
    refine Br_dec (fun g0 => ?_) (fun g0 => ?_)
    · have g0 : shiftV .shl .i64 k (6 : Int).toNat < B := g0
      rw [es] at g0
      refine Br_dec (fun g1 => ?_) (fun g1 => ?_)
      · have g1 : A < B := g1
        have hl : k.toNat < ws.length := by omega
        have hx := List.getElem?_eq_getElem hl
        generalize ws[k.toNat] = x at hx
        have hx2 := h.lt _ _ hx
        refine AnyC_ord [0,1,2,3,4,5,6,7,8,9,10,1011,12,1013,14,15] T_ok mixed (by kernel_rfl) (by kernel_rfl) (Kp ?_)
        refine LdS_blk h2.tab rfl ?_
        refine Sd_intro (show 0 ≤ k ∧ k < (ws.length : Int) by omega) ?_
        refine LdS_idx (v := .int .u64 (x : Int)) h2.row (by
          show (u64s ws)[0 + k.toNat * 1]? = _
          rw [Nat.zero_add, Nat.mul_one]
          exact u64s_get? hx) ?_
        refine ⟨?_, trivial⟩
        refine CallC_intro (mask_spec k A B w2.drew kA (by omega) (by omega) (by omega) (by omega) (by omega)) (fun v w3 ⟨⟨y, hv, hy, hb⟩, f3⟩ => ?_)
        subst hv
        have f23 := (Fr.drew w2).no f3
        refine Sd_intro f23.old ?_
        refine ⟨?_, trivial⟩
        refine CallC_intro (ones_spec (Vc.bits .and .u64 (x : Int) (y : Int)) (x &&& y) w3 (and_u64 hx2 hy) (Nat.and_lt_two_pow _ hy)) (fun v w4 ⟨hv, f4⟩ => ?_)
        subst hv
        have f24 := f23.no f4
        refine Sd_intro f24.old ?_
        have hc : cnt (within S A B) (64 * (k + 1).toNat) = cnt (within S A B) (64 * k.toNat) + cnt (x &&& y).testBit 64 := by
          rw [show 64 * (k + 1).toNat = 64 * k.toNat + 64 by omega, cnt_add]
          congr 1
          refine cnt_congr fun j hj => ?_
          rw [Nat.testBit_and, hb j hj, ← mem_word hx j hj, he]
          unfold within
          rw [Bool.and_comm]
          congr 1
          exact decide_eq_decide.2 ⟨fun h => by omega, fun h => by omega⟩
        have c1 : cnt (x &&& y).testBit 64 ≤ 64 := cnt_le _ _
        refine ⟨(ws.length + 1 - (k + 1)).toNat, _, by omega, ?_, k + 1, rfl, h2.keep f24 id id, f2.no f24, (show A / 64 ≤ k + 1 by omega), .inr (show 64 * (k + 1) < B + 64 by omega), rfl⟩
        refine ⟨rfl, rfl, rfl, look_int rfl ?_, look_int rfl (wrap_i64 (by omega) (by omega)), trivial⟩
        rw [hc, wrap_i64 (by omega) (by omega)]; omega
      · have g1 : ¬ A < B := g1
        refine ⟨?_, f2⟩
        show Value.int .i64 ((cnt (within S A B) (64 * k.toNat) : Nat) : Int) = _
        rw [stop True (fun e => g1 e.2)]
    · have g0 : ¬ shiftV .shl .i64 k (6 : Int).toNat < B := g0
      rw [es] at g0
      refine ⟨?_, f2⟩
      show Value.int .i64 ((cnt (within S A B) (64 * k.toNat) : Nat) : Int) = _
      rw [stop True (fun e => g0 e.1)]
def bfill (S : Nat → Bool) (a b : Int) (on : Bool) : Nat → Bool := fun p => if a ≤ (p : Int) ∧ (p : Int) < b then on else S p
theorem Fill_out {b r : Nat} {n : Int} {S : Nat → Bool} (frm to : Int) (on : Bool) (w : World) (h : IsBits w b r n S) (ho : frm < 0 ∨ to < frm ∨ n < to) :
    CallC Pr f_bits_Set_Fill [.pointer (some ⟨b, 0, none⟩), .int .i64 frm, .int .i64 to, .bool on] w (fun v w' => v = .int .i64 2 ∧ Fr No w w') := by
  obtain ⟨ws, h, he⟩ := h
  refine call_sound T_ok fun_bits_Set_Fill rfl (by kernel_rfl) rfl (Kp ?_)
  refine Br_dec (fun g => ?_) (fun g => ?_)
  · exact ⟨rfl, Fr.refl _ _⟩
  · have g : ¬ frm < 0 := g
    refine Br_dec (fun g1 => ?_) (fun g1 => ?_)
    · exact ⟨rfl, Fr.refl _ _⟩
    · have g1 : ¬ to < frm := g1
      refine LdC_blk h.tab rfl ?_
      refine Br_dt (show to > n by omega) ?_
      exact ⟨rfl, Fr.refl _ _⟩
theorem Fill_spec {b r : Nat} {n : Int} {S : Nat → Bool} (frm to : Int) (on : Bool) (w : World) (h : IsBits w b r n S) (h0 : 0 ≤ frm) (h1 : frm ≤ to) (h2 : to ≤ n) :
    CallC Pr f_bits_Set_Fill [.pointer (some ⟨b, 0, none⟩), .int .i64 frm, .int .i64 to, .bool on] w (fun v w' => v = .int .i64 0 ∧ IsBits w' b r n (bfill S frm to on) ∧ Fr (· = r) w w') := by
  obtain ⟨ws0, h, he⟩ := h
  have hn := h.n1
  have hlen := h.len
  refine call_sound T_ok fun_bits_Set_Fill rfl (by kernel_rfl) rfl (Kp ?_)
  refine Br_df (show ¬ frm < 0 by omega) ?_
  refine Br_df (show ¬ to < frm by omega) ?_
  refine LdC_blk h.tab rfl ?_
  refine Br_df (show ¬ to > n by omega) ?_
  refine Sd_intro (by omega) ?_
  refine LoopC_intro (α := Int) (fun k => [(0, .pointer (some ⟨b, 0, none⟩)), (1, .int .i64 frm), (2, .int .i64 to), (3, .bool on), (9, .int .i64 k)])
    (fun m k w2 => ∃ ws, IsBitsW w2 b r n ws ∧ ws.length = ws0.length ∧ Fr (· = r) w w2 ∧ frm / 64 ≤ k ∧ (k = frm / 64 ∨ 64 * k < to + 64) ∧ (∀ p : Nat, mem ws p = if (p : Int) < 64 * k then bfill S frm to on p else S p) ∧ m = (ws0.length + 1 - k).toNat)
    (ws0.length + 1 - frm / 64 : Int).toNat (frm / 64) ⟨rfl, rfl, rfl, rfl, look_int rfl shr6, trivial⟩
    ⟨ws0, h, rfl, Fr.refl _ _, Int.le_refl _, .inl rfl, fun p => ?_, rfl⟩ (fun m k w2 hJ => Kp ?_)
  · rw [he]
    split
    · rename_i g
      unfold bfill
      rw [if_neg (by omega)]
    · rfl
  · obtain ⟨ws, h3, hl, f2, k0, k1, hS, hm⟩ := hJ
    have k0 : frm / 64 ≤ k := k0
    have kA : 0 ≤ k := by omega
    have es : shiftV .shl .i64 k (6 : Int).toNat = k * 64 := shl6 (by omega) (by omega)
    refine Sd_intro (by omega) ?_
    have stop : (¬ (k * 64 < to ∧ frm < to)) → IsBits w2 b r n (bfill S frm to on) := fun hc => ⟨ws, h3, fun p => by
      rw [hS]
      split
      · rfl
      · rename_i g
        unfold bfill
        rw [if_neg (by omega)]⟩
    refine Br_dec (fun g0 => ?_) (fun g0 => ?_)
    · have g0 : shiftV .shl .i64 k (6 : Int).toNat < to := g0
      rw [es] at g0
      refine Br_dec (fun g1 => ?_) (fun g1 => ?_)
      · have g1 : frm < to := g1
        have hlt : k.toNat < ws.length := by omega
        have hx := List.getElem?_eq_getElem hlt
        generalize ws[k.toNat] = x at hx
        have hx2 := h3.lt _ _ hx
        have hmx : ∀ j, j < 64 → x.testBit j = S (64 * k.toNat + j) := fun j hj => by rw [← mem_word hx j hj, hS, if_neg (by omega)]
        have step : ∀ (z : Nat) (w3 : World), z < 2 ^ 64 → (∀ j, j < 64 → z.testBit j = bfill S frm to on (64 * k.toNat + j)) → Blk w3 r t_uint64 (u64s (ws.set k.toNat z)) → Fr (· = r) w2 w3 →
            ∃ ws', IsBitsW w3 b r n ws' ∧ ws'.length = ws0.length ∧ (∀ p : Nat, mem ws' p = if (p : Int) < 64 * (k + 1) then bfill S frm to on p else S p) := by
          intro z w3 hz hzb hblk hfr
          refine ⟨_, h3.set k.toNat z hz ?_ hblk hfr, by rw [List.length_set]; exact hl, fun p => ?_⟩
          · intro j hj hb
            rw [hzb _ (Nat.mod_lt _ (by omega)), show 64 * k.toNat + j % 64 = j by omega] at hb
            unfold bfill at hb
            split at hb
            · omega
            · exact h.hi j ((he j).trans hb)
          · rw [mem_set hlt]
            split
            · rename_i g
              rw [hzb _ (Nat.mod_lt _ (by omega)), show 64 * k.toNat + p % 64 = p by omega, if_pos (by omega)]
            · rename_i g
              rw [hS]
              by_cases hp : (p : Int) < 64 * k
              · rw [if_pos hp, if_pos (by omega)]
              · rw [if_neg hp, if_neg (by omega)]
        refine Br_intro (fun ho => ?_) (fun ho => ?_)
        · have ho : on = true := ho
          refine AnyC_ord [0,1,2,3,4,5,6,7,8,9,1010,11,12,1013] T_ok mixed (by kernel_rfl) (by kernel_rfl) (Kp ?_)
          refine LdS_blk h3.tab rfl ?_
          refine Sd_intro (show 0 ≤ k ∧ k < (ws.length : Int) by omega) ?_
          refine LdS_idx (v := .int .u64 (x : Int)) h3.row (by
            show (u64s ws)[0 + k.toNat * 1]? = _
            rw [Nat.zero_add, Nat.mul_one]
            exact u64s_get? hx) ?_
          refine ⟨?_, trivial⟩
          refine CallC_intro (mask_spec k frm to w2.drew kA (by omega) (by omega) (by omega) (by omega) (by omega)) (fun v w3 ⟨⟨y, hv, hy, hb⟩, f3⟩ => ?_)
          subst hv
          have f23 := (Fr.drew w2).no f3
          refine Sd_intro f23.old ?_
          refine Sd_intro (show 0 ≤ k ∧ k < (ws.length : Int) by omega) ?_
          refine ⟨?_, trivial⟩
          refine StC_idx (h3.keep f23 id id).row rfl (u := .int .u64 (x : Int)) (by
            show (u64s ws)[0 + k.toNat * 1]? = _
            rw [Nat.zero_add, Nat.mul_one]
            exact u64s_get? hx) (fun w4 h4 f4 _ => ?_)
          have h4 : Blk w4 r t_uint64 ((u64s ws).set (0 + k.toNat * 1) (.int .u64 (Vc.bits .or .u64 (x : Int) (y : Int)))) := h4
          rw [Nat.zero_add, Nat.mul_one, or_u64 hx2 hy, u64s_set] at h4
          have f24 := f23.noL f4
          obtain ⟨ws', h5, hl5, hS5⟩ := step (x ||| y) w4 (Nat.or_lt_two_pow hx2 hy) (fun j hj => by
            rw [Nat.testBit_or, hmx j hj, hb j hj]
            unfold bfill
            by_cases hc : frm ≤ ((64 * k.toNat + j : Nat) : Int) ∧ ((64 * k.toNat + j : Nat) : Int) < to
            · rw [if_pos hc, decide_eq_true (by omega), ho]; simp
            · rw [if_neg hc, decide_eq_false (by omega)]; simp) h4 f24
          refine ⟨(ws0.length + 1 - (k + 1)).toNat, _, by omega, ?_, k + 1, rfl, ws', h5, hl5, f2.same f24, (show frm / 64 ≤ k + 1 by omega), .inr (show 64 * (k + 1) < to + 64 by omega), hS5, rfl⟩
          exact ⟨rfl, rfl, rfl, by rw [ho]; rfl, look_int rfl (wrap_i64 (by omega) (by omega)), trivial⟩
        · have ho : on = false := ho
          refine AnyC_ord [0,1,2,3,4,5,6,7,8,9,1010,11,12,1013] T_ok mixed (by kernel_rfl) (by kernel_rfl) (Kp ?_)
          refine LdS_blk h3.tab rfl ?_
          refine Sd_intro (show 0 ≤ k ∧ k < (ws.length : Int) by omega) ?_
          refine LdS_idx (v := .int .u64 (x : Int)) h3.row (by
            show (u64s ws)[0 + k.toNat * 1]? = _
            rw [Nat.zero_add, Nat.mul_one]
            exact u64s_get? hx) ?_
          refine ⟨?_, trivial⟩
          refine CallC_intro (mask_spec k frm to w2.drew kA (by omega) (by omega) (by omega) (by omega) (by omega)) (fun v w3 ⟨⟨y, hv, hy, hb⟩, f3⟩ => ?_)
          subst hv
          have f23 := (Fr.drew w2).no f3
          refine Sd_intro f23.old ?_
          refine Sd_intro (show 0 ≤ k ∧ k < (ws.length : Int) by omega) ?_
          refine ⟨?_, trivial⟩
          refine StC_idx (h3.keep f23 id id).row rfl (u := .int .u64 (x : Int)) (by
            show (u64s ws)[0 + k.toNat * 1]? = _
            rw [Nat.zero_add, Nat.mul_one]
            exact u64s_get? hx) (fun w4 h4 f4 _ => ?_)
          have h4 : Blk w4 r t_uint64 ((u64s ws).set (0 + k.toNat * 1) (.int .u64 (Vc.bits .andNot .u64 (x : Int) (y : Int)))) := h4
          rw [Nat.zero_add, Nat.mul_one, without_u64, u64s_set] at h4
          have f24 := f23.noL f4
          obtain ⟨ws', h5, hl5, hS5⟩ := step (without x y) w4 (without_lt _ _) (fun j hj => by
            rw [without_bit hx2, hmx j hj, hb j hj]
            unfold bfill
            by_cases hc : frm ≤ ((64 * k.toNat + j : Nat) : Int) ∧ ((64 * k.toNat + j : Nat) : Int) < to
            · rw [if_pos hc, decide_eq_true (by omega), ho]; simp
            · rw [if_neg hc, decide_eq_false (by omega)]; simp) h4 f24
          refine ⟨(ws0.length + 1 - (k + 1)).toNat, _, by omega, ?_, k + 1, rfl, ws', h5, hl5, f2.same f24, (show frm / 64 ≤ k + 1 by omega), .inr (show 64 * (k + 1) < to + 64 by omega), hS5, rfl⟩
          exact ⟨rfl, rfl, rfl, by rw [ho]; rfl, look_int rfl (wrap_i64 (by omega) (by omega)), trivial⟩
      · have g1 : ¬ frm < to := g1
        exact ⟨rfl, stop (fun e => g1 e.2), f2⟩
    · have g0 : ¬ shiftV .shl .i64 k (6 : Int).toNat < to := g0
      rw [es] at g0
      exact ⟨rfl, stop (fun e => g0 e.1), f2⟩
/-- The numbers of a set below m. -/
def elems (S : Nat → Bool) : Nat → List Int
  | 0 => []
  | m + 1 => elems S m ++ (if S m = true then [(m : Int)] else [])
theorem elems_le (S : Nat → Bool) (m : Nat) : (elems S m).length ≤ m := by
  induction m with
  | zero => exact Nat.le_refl _
  | succ m ih => simp only [elems, List.length_append]; split <;> simp <;> omega
theorem elems_more {S : Nat → Bool} {m n : Nat} (hmn : m ≤ n) (h : ∀ j, m ≤ j → j < n → S j = false) : elems S n = elems S m := by
  obtain ⟨d, rfl⟩ : ∃ d, n = m + d := ⟨n - m, by omega⟩
  clear hmn
  induction d with
  | zero => rfl
  | succ d ih =>
    show elems S (m + d + 1) = _
    simp only [elems]
    rw [ih (fun j h1 h2 => h j h1 (by omega)), h (m + d) (by omega) (by omega)]; simp
theorem elems_congr {S S' : Nat → Bool} {m : Nat} (h : ∀ j, j < m → S j = S' j) : elems S m = elems S' m := by
  induction m with
  | zero => rfl
  | succ m ih => simp only [elems]; rw [ih (fun j hj => h j (by omega)), h m (by omega)]
theorem elems_cnt (S : Nat → Bool) (m : Nat) : (elems S m).length = cnt S m := by
  induction m with
  | zero => rfl
  | succ m ih => simp only [elems, cnt, List.length_append, ih]; cases S m <;> simp
theorem List_spec {b r : Nat} {n : Int} {S : Nat → Bool} (w : World) (h : IsBits w b r n S) (hT : Tab64 w) :
    CallC Pr f_bits_Set_List [.pointer (some ⟨b, 0, none⟩)] w (fun v w' => Own w' w.heap.size v (elems S n.toNat) ∧ Fr No w w') := by
  have hn := h.n1
  have hn0 := h.n0
  have hhi := h.hi
  have hb := h.blt
  have hr := h.rlt
  have hg := hT.lt
  refine call_sound T_ok fun_bits_Set_List rfl (by kernel_rfl) rfl (Kp ?_)
  refine CallC_intro (Next_spec 0 w h hT) (fun v w1 ⟨⟨z, hv, hz⟩, f1⟩ => ?_)
  subst hv
  have hz : NextIs S 0 z := hz
  refine LoopC_intro (α := Value × Int) (fun q => [(0, .pointer (some ⟨b, 0, none⟩)), (3, q.1), (4, .int .i64 q.2)])
    (fun m q w2 => ∃ p : Nat, IsBits w2 b r n S ∧ Tab64 w2 ∧ Fr No w w2 ∧ Own w2 w.heap.size q.1 (elems S p) ∧ NextIs S p q.2 ∧ p ≤ n ∧ m = n.toNat + 1 - p)
    (n.toNat + 1 - 0) (.slice none 0 0, z) ⟨rfl, rfl, rfl, trivial⟩
    ⟨0, h.keep f1 id id, hT.keep f1 id, f1, Own.nil _ _, hz, by omega, rfl⟩ (fun m q w2 hJ => Kp ?_)
  obtain ⟨v, i⟩ := q
  obtain ⟨p, h2, hT2, f2, hO, hN, hp, hm⟩ := hJ
  have hO : Own w2 w.heap.size v (elems S p) := hO
  have hN : NextIs S p i := hN
  refine Br_dec (fun g0 => ?_) (fun g0 => ?_)
  · have g0 : i ≥ 0 := g0
    rcases hN with ⟨e, _⟩ | ⟨q, rfl, q1, q2, q3⟩
    · omega
    have hq := hhi q q2
    have eq1 : elems S q = elems S p := elems_more q1 q3
    have eq2 : elems S (q + 1) = elems S p ++ [(q : Int)] := by simp only [elems]; rw [eq1, q2]; rfl
    have hle := elems_le S p
    refine NewC_blk (fun p5 w5 hp5 h5 f5 _ => ?_)
    refine ApC T_ok (e := t_int) rfl rfl rfl (by decide) (hO.keep f5 (fun _ _ => id)) (f2.no f5).size h5 (news := [.int .i64 (q : Int)]) rfl rfl rfl (by omega) (show _ * 8 ≤ 140737488355328 by omega) (fun v6 w6 o6 f6 => ?_)
    have ge : ∀ j, v.ownBlock = some j → w.heap.size ≤ j := fun j hj => hO.ge j hj
    have f26 : Fr (fun j => v.ownBlock = some j) w2 w6 := f5.noL f6
    have fw6 : Fr No w w6 := f2.new f26 (fun _ _ e => e) (fun j e => ge j e)
    have hne : ¬ v.ownBlock = some b ∧ ¬ v.ownBlock = some r ∧ ¬ v.ownBlock = some g_math_bits_deBruijn64tab := ⟨fun e => by have := ge _ e; omega, fun e => by have := ge _ e; omega, fun e => by have := ge _ e; omega⟩
    have h6 := h2.keep f26 hne.1 hne.2.1
    have hT6 := hT2.keep f26 hne.2.2
    have ei : IntKind.i64.wrap ((q : Int) + 1) = (q : Int) + 1 := wrap_i64 (by omega) (by omega)
    refine CallC_intro (Next_spec (IntKind.i64.wrap ((q : Int) + 1)) w6 h6 hT6) (fun v7 w7 ⟨⟨z7, hv, hz7⟩, f7⟩ => ?_)
    subst hv
    rw [ei, show (max ((q : Int) + 1) 0).toNat = q + 1 by omega] at hz7
    refine ⟨n.toNat + 1 - (q + 1), _, by omega, ?_, (v6, z7), rfl, q + 1, h6.keep f7 id id, hT6.keep f7 id, fw6.no f7, ?_, hz7, by omega, rfl⟩
    · exact ⟨rfl, rfl, rfl, trivial⟩
    refine Own.keep (F := No) ?_ f7 (fun _ _ => id)
    show Own w6 w.heap.size v6 (elems S (q + 1))
    rw [eq2]
    unfold Own
    rw [List.length_append, ints_append]
    exact o6
  · have g0 : ¬ i ≥ 0 := g0
    rcases hN with ⟨rfl, hno⟩ | ⟨q, rfl, _⟩
    · refine ⟨?_, f2⟩
      rw [elems_more (m := p) (n := n.toNat) (by omega) (fun j h1 _ => hno j h1)]
      exact hO
    · omega
end Go.Proofs.YtilhoimokegpjaaDoor
