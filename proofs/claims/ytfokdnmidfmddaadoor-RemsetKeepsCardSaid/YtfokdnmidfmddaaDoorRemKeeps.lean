/- Layer 11 (remset): RemsetKeeps. -/
import Derived.Test.YtfokdnmidfmddaaDoorRemLaw
import Derived.Test.YtfokdnmidfmddaaDoorVcU
import Derived.Test.YtfokdnmidfmddaaDoorVcR
namespace Go.Proofs.YtfokdnmidfmddaaDoor
open Go.Vc

def act11 : List (Option IntKind) := [some .i64, some .i64, some .i64]
theorem act11_row {cs : List Value} (h : LeafRow act11 cs) : ∃ k a b : Int, cs = [.int .i64 k, .int .i64 a, .int .i64 b] := by
  obtain ⟨v0, r0, rfl, ⟨k, rfl, h0⟩, g0⟩ := h.cons
  obtain ⟨v1, r1, rfl, ⟨a, rfl, h1⟩, g1⟩ := g0.cons
  obtain ⟨v2, r2, rfl, ⟨b, rfl, h2⟩, g2⟩ := g1.cons
  obtain rfl := g2.nil
  exact ⟨k, a, b, rfl⟩
/-- A remainder that is never below 0. -/
def pmod (a m : Int) : Int := (IntKind.i64.wrap (a.tmod m + m)).tmod m
theorem pmod_ok (a m : Int) (h0 : 0 < m) (h1 : m ≤ 1000000) : 0 ≤ pmod a m ∧ pmod a m < m := by
  unfold pmod
  have b1 := Int.tmod_lt_of_pos a h0
  have b2 : -m < a.tmod m := by have := Int.lt_tmod_of_pos a h0; omega
  rw [wrap_i64 (by omega) (by omega)]
  have e : (a.tmod m + m).tmod m = (a.tmod m + m) % m := tmod_eq (by omega)
  rw [e]
  exact ⟨Int.emod_nonneg _ (by omega), Int.emod_lt_of_pos _ h0⟩
def Wok (N : Int) (A : Abs) (W : Nat → Bool) : Prop := ∀ h c : Int, 0 ≤ h → h < 8 → 0 ≤ c → c < 64 →
  (W (h * 64 + c).toNat = true → hasA N N A h c = true) ∧ (hasA N N A h c = true → A (h, c / N) = .co ∨ W (h * 64 + c).toNat = true)
structure K11 (w0 w : World) (b pw tw : Nat) (B : Nat → Prop) (N : Int) (A : Abs) (W : Nat → Bool) : Prop where
  rs : RS w b B N N A
  want : Blk w pw tw (bools W 512)
  own : ∀ x, B x → w0.heap.size ≤ x ∧ x < w.heap.size ∧ x ≠ pw
  wlt : w0.heap.size ≤ pw
  fr : Fr No w0 w
section
variable {w0 w w' : World} {b pw tw : Nat} {B B' : Nat → Prop} {N : Int} {A A' : Abs} {W W' : Nat → Bool}
theorem K11.no (h : K11 w0 w b pw tw B N A W) (f : Fr No w w') : K11 w0 w' b pw tw B N A W :=
  ⟨h.rs.keep f (fun _ _ => id), h.want.keep f id, fun x hx => ⟨(h.own x hx).1, Nat.lt_of_lt_of_le (h.own x hx).2.1 f.size, (h.own x hx).2.2⟩, h.wlt, h.fr.no f⟩
theorem K11.sets (h : K11 w0 w b pw tw B N A W) (hR : RS w' b B' N N A') (hB : ∀ x, B' x → B x ∨ w.heap.size ≤ x) (f : Fr B w w') : ∃ B'', K11 w0 w' b pw tw B'' N A' W := by
  have h0 := h.fr.size
  have hp := h.want.lt
  have hs := f.size
  refine ⟨_, hR.trim, h.want.keep f (fun e => (h.own pw e).2.2 rfl), fun x hx => ?_, h.wlt, h.fr.new f (fun _ _ e => e) (fun x e => (h.own x e).1)⟩
  rcases hB x hx.1 with e | e
  · exact ⟨(h.own x e).1, hx.2, (h.own x e).2.2⟩
  · exact ⟨by omega, hx.2, by omega⟩
theorem K11.put (h : K11 w0 w b pw tw B N A W) (hb : Blk w' pw tw (bools W' 512)) (f : Fr (· = pw) w w') : K11 w0 w' b pw tw B N A W' :=
  ⟨h.rs.keep f (fun x hx e => (h.own x hx).2.2 e), hb, fun x hx => ⟨(h.own x hx).1, Nat.lt_of_lt_of_le (h.own x hx).2.1 f.size, (h.own x hx).2.2⟩, h.wlt, h.fr.new f (fun _ _ e => e) (fun x e => by have := h.wlt; omega)⟩
end
def Wst (W : Nat → Bool) (hn h c : Nat) : Nat → Bool := fun j => W j && !decide ((j / 64 < h ∨ (j / 64 = h ∧ j % 64 < c)) ∧ j % 64 / 8 = hn)
theorem Wst_next {W : Nat → Bool} {hn h c : Nat} (hc : c < 64) (h8 : c / 8 = hn) : bools (upd (Wst W hn h c) (h * 64 + c) false) 512 = bools (Wst W hn h (c + 1)) 512 := bools_congr fun j _ => by
  unfold upd Wst
  by_cases e : j = h * 64 + c
  · rw [if_pos e]
    rw [decide_eq_true (by omega)]; simp
  · rw [if_neg e]
    congr 2
    refine decide_eq_decide.2 ?_
    omega
theorem Wst_zero {W : Nat → Bool} {hn h : Nat} : bools (Wst W hn h 0) 512 = bools (Wst W hn h (8 * hn)) 512 := bools_congr fun j _ => by
  unfold Wst
  congr 2
  refine decide_eq_decide.2 ?_
  omega
theorem Wst_end {W : Nat → Bool} {hn h : Nat} (h8 : hn < 8) : bools (Wst W hn h (8 * hn + 8)) 512 = bools (Wst W hn (h + 1) 0) 512 := bools_congr fun j _ => by
  unfold Wst
  congr 2
  refine decide_eq_decide.2 ?_
  omega
theorem way_fi {N : Int} {A : Abs} {h r : Int} (h0 : 0 ≤ h ∧ h < N) : wayA N A h r = 2 ↔ (A (h, r)).isFi = true := by
  unfold wayA
  rw [if_pos h0]
  cases A (h, r) with
  | co => exact ⟨fun e => (by cases e), fun e => (by cases e)⟩
  | fi S => exact ⟨fun _ => rfl, fun _ => rfl⟩
  | sp l =>
    dsimp only
    split
    · exact ⟨fun e => (by cases e), fun e => (by cases e)⟩
    · exact ⟨fun e => (by cases e), fun e => (by cases e)⟩
theorem rng_snoc {r : Int} (h : 0 ≤ r) : rng (r + 1) = rng r ++ [r] := by
  unfold rng
  rw [show (r + 1).toNat = r.toNat + 1 by omega, List.range_succ, List.map_append]
  congr 1
  show [((r.toNat : Nat) : Int)] = [r]
  rw [Int.toNat_of_nonneg h]
theorem row_clear {W : Nat → Bool} {hn : Nat} (h : hn < 8) : over (bools W 512) (0 + hn * 64) (List.replicate 64 (.bool false)) = bools (fun j => W j && !decide (j / 64 = hn)) 512 := by
  apply List.ext_getElem?
  intro j
  rw [over_get _ _ _ _ (by rw [List.length_replicate, bools_len]; omega), List.length_replicate]
  by_cases hj : j < 512
  · rw [bools_get hj, bools_get hj]
    split
    · rename_i hc
      rw [List.getElem?_replicate, if_pos (by omega), decide_eq_true (by omega)]
      simp
    · rename_i hc
      rw [decide_eq_false (by omega)]
      simp
  · rw [if_neg (by omega), List.getElem?_eq_none (by rw [bools_len]; omega), List.getElem?_eq_none (by rw [bools_len]; omega)]
set_option maxHeartbeats 4000000 in
theorem RemsetKeeps_spec (ad : Option Addr) (len cap : Nat) (css : List (List Value)) (w : World) (hT : Tab64 w) (hr : RowsArg w 3 ad len css) (hk : ∀ cs ∈ css, LeafRow act11 cs) (hl : len ≤ 9223372036854775807) :
    CallC Pr f_gleanerlaw11_RemsetKeeps [.slice ad len cap] w (fun v w' => v = .bool true ∧ Fr No w w') := by
  obtain ⟨N, hN⟩ : ∃ N : Int, N = 8 := ⟨_, rfl⟩
  have C : Cfg N N := by rw [hN]; exact cfg8
  refine callU_sound T_ok fun_gleanerlaw11_RemsetKeeps rfl (by kernel_rfl) rfl (Kp ?_)
  refine Cut_no ?_
  refine CallC_intro (awake11_spec w hT) (fun v w1 ⟨hv, f1⟩ => ?_)
  subst hv
  refine CallC_intro (small11_spec w1) (fun v w2 ⟨hv, f2⟩ => ?_)
  subst hv
  refine CallC_intro (smallRS w2) (fun v w3 ⟨b, B, hv, hR, f3, hB⟩ => ?_)
  subst hv
  refine Cut_no ?_
  refine NewC_blk (fun pw w4 e_pw h4 f4 s4 => ?_)
  obtain ⟨tw, h4⟩ : ∃ tw, Blk w4 pw tw (bools (fun _ => false) 512) := ⟨_, by rw [bools_false]; exact h4⟩
  have z1 := f1.size
  have z2 := f2.size
  have z3 := f3.size
  rw [← hN] at hR
  have k4 : K11 w w4 b pw tw B N (fun _ => .sp []) (fun _ => false) := ⟨hR.keep f4 (fun _ _ => id), h4, fun x hx => by have := hB x hx; omega, by omega, ((f1.no f2).no f3).no f4⟩
  have W4 : Wok N (fun _ => .sp []) (fun _ => false) := fun h c _ _ _ _ => ⟨fun e => (by cases e), fun e => by
    rw [hasA_iff] at e
    cases e.2⟩
  have fin : ∀ {w6 : World} {A : Abs} {W : Nat → Bool} {B : Nat → Prop}, K11 w w6 b pw tw B N A W → Wok N A W → ∀ h c : Int, 0 ≤ h → h < 8 → 0 ≤ c → c < 64 → hasA N N A h c = true → c.tdiv 8 ≠ h ∧ wayA N A h (c.tdiv 8) ≠ 0 ∧ (wayA N A h (c.tdiv 8) = 3 ∨ W (h * 64 + c).toNat = true) := by
    intro w6 A W B k6 o6 h c h0 h1 c0 c1 hh
    have hA := k6.rs.aok
    obtain ⟨q1, q2⟩ := own_has hA hh
    rw [tdiv_eq c0, ← hN]
    refine ⟨q1, ?_, ?_⟩
    · unfold wayA
      rw [if_pos ⟨h0, by omega⟩]
      cases hc : A (h, c / N) with
      | co => dsimp only; decide
      | fi S => dsimp only; decide
      | sp l =>
        dsimp only
        rw [if_neg (fun e => q2 (by rw [hc, e]))]
        decide
    · rcases (o6 h c h0 h1 c0 c1).2 hh with e | e
      · left
        unfold wayA
        rw [if_pos ⟨h0, by omega⟩, e]
      · exact .inr e
  refine Cut (α := Unit) (fun _ => [(3, .pointer (some ⟨b, 0, none⟩)), (5, .pointer (some ⟨pw, 0, none⟩))]) (fun _ w5 => ∃ B A W, K11 w w5 b pw tw B N A W ∧ Wok N A W) ?_ (fun _ w5 hJ => Kp ?_)
  rotate_left
  · -- the questions in the end
    obtain ⟨B5, A5, W5, k5, o5⟩ := hJ
    clear k4 W4 hR hB
    refine Cut_no ?_
    refine LoopC_intro (α := Int) (fun h => [(3, .pointer (some ⟨b, 0, none⟩)), (5, .pointer (some ⟨pw, 0, none⟩)), (17, .int .i64 h)])
      (fun m h w6 => K11 w w6 b pw tw B5 N A5 W5 ∧ 0 ≤ h ∧ h ≤ 8 ∧ m = (8 - h).toNat) 8 0 ⟨rfl, rfl, rfl, trivial⟩ ⟨k5, Int.le_refl _, (show (0 : Int) ≤ 8 by decide), rfl⟩ (fun m h w6 hJ => Kp ?_)
    obtain ⟨k6, h0, h1, hm⟩ := hJ
    have h0 : 0 ≤ h := h0
    have h1 : h ≤ 8 := h1
    refine Cut_no ?_
    refine Br_dec (fun g => ?_) (fun g => ?_)
    rotate_left
    · exact ⟨rfl, k6.fr⟩
    have g : h < 8 := g
    refine Cut_no ?_
    refine LoopC_intro (α := Int) (fun c => [(3, .pointer (some ⟨b, 0, none⟩)), (5, .pointer (some ⟨pw, 0, none⟩)), (17, .int .i64 h), (18, .int .i64 c)])
      (fun m c w7 => K11 w w7 b pw tw B5 N A5 W5 ∧ 0 ≤ c ∧ c ≤ 64 ∧ m = (64 - c).toNat) 64 0 ⟨rfl, rfl, rfl, rfl, trivial⟩ ⟨k6, Int.le_refl _, (show (0 : Int) ≤ 64 by decide), rfl⟩ (fun m2 c w7 hJ => Kp ?_)
    obtain ⟨k7, c0, c1, hm2⟩ := hJ
    have c0 : 0 ≤ c := c0
    have c1 : c ≤ 64 := c1
    have hm : m = (8 - h).toNat := hm
    have hm2 : m2 = (64 - c).toNat := hm2
    refine Cut_no ?_
    refine Br_dec (fun g2 => ?_) (fun g2 => ?_)
    rotate_left
    · refine ⟨(8 - (h + 1)).toNat, _, by omega, ?_, h + 1, rfl, k7, (show 0 ≤ h + 1 by omega), (show h + 1 ≤ 8 by omega), rfl⟩
      exact ⟨rfl, rfl, look_int rfl (wrap_i64 (by omega) (by omega)), trivial⟩
    have g2 : c < 64 := g2
    have idx : (bools W5 512)[0 + h.toNat * 64 + c.toNat * 1]? = some (.bool (W5 (h * 64 + c).toNat)) := by
      rw [show 0 + h.toNat * 64 + c.toNat * 1 = (h * 64 + c).toNat by omega]
      exact bools_get (by omega)
    have next : ∀ {w8 : World}, K11 w w8 b pw tw B5 N A5 W5 → 0 ≤ c + 1 ∧ c + 1 ≤ 64 ∧ (64 - (c + 1)).toNat < m2 := fun _ => by omega
    have last : Vc.look [(18, Value.int .i64 (IntKind.i64.wrap (c + 1)))] 18 = some (.int .i64 (c + 1)) := look_int rfl (wrap_i64 (by omega) (by omega))
    refine Cut_no ?_
    refine Sd_intro ((show 0 ≤ h ∧ h < 8 by omega)) ?_
    refine Sd_intro ((show 0 ≤ c ∧ c < 64 by omega)) ?_
    obtain ⟨x, hx⟩ : ∃ x, x = W5 (h * 64 + c).toNat := ⟨_, rfl⟩
    rw [← hx] at idx
    refine LdC_idx2 k7.want idx ?_
    obtain ⟨wy, hwy⟩ : ∃ k, k = wayA N A5 h (c.tdiv 8) := ⟨_, rfl⟩
    have hhas := (o5 h c h0 g c0 g2).1
    rw [← hx] at hhas
    cases hh : hasA N N A5 h c with
    | false =>
      cases x with
      | true => rw [hhas rfl] at hh; cases hh
      | false =>
        refine CallC_intro (Has_RS C h c k7.rs) (fun v w8 ⟨hv, f8⟩ => ?_)
        rw [hh] at hv
        subst hv
        obtain ⟨e1, e2, e3⟩ := next (k7.no f8)
        refine ⟨(64 - (c + 1)).toNat, _, e3, ?_, c + 1, rfl, k7.no f8, e1, e2, rfl⟩
        exact ⟨rfl, rfl, rfl, last, trivial⟩
    | true =>
      obtain ⟨q1, q2, q3⟩ := fin k5 o5 h c h0 g c0 g2 hh
      rw [← hwy] at q2 q3
      rw [← hx] at q3
      have ew : IntKind.i64.wrap (c.tdiv 8) = c.tdiv 8 := by rw [tdiv_eq c0]; exact wrap_i64 (by omega) (by omega)
      have q1 : ¬ IntKind.i64.wrap (c.tdiv 8) = h := by rw [ew]; exact q1
      -- the questions behind the first
      cases x with
      | true =>
        refine CallC_intro (Has_RS C h c k7.rs) (fun v w8 ⟨hv, f8⟩ => ?_)
        rw [hh] at hv
        subst hv
        have k8 := k7.no f8
        refine CallC_intro (Has_RS C h c k8.rs) (fun v w9 ⟨hv, f9⟩ => ?_)
        rw [hh] at hv
        subst hv
        have k9 := k8.no f9
        refine Sd_intro ((by decide)) ?_
        refine Br_df q1 ?_
        refine Sd_intro ((by decide)) ?_
        refine CallC_intro (Way_RS h (IntKind.i64.wrap (c.tdiv 8)) k9.rs) (fun v w10 ⟨hv, f10⟩ => ?_)
        rw [ew, ← hwy] at hv
        subst hv
        have k10 := k9.no f10
        refine Br_df q2 ?_
        refine Sd_intro ((by decide)) ?_
        refine CallC_intro (Way_RS h (IntKind.i64.wrap (c.tdiv 8)) k10.rs) (fun v w11 ⟨hv, f11⟩ => ?_)
        rw [ew, ← hwy] at hv
        subst hv
        have k11 := k10.no f11
        obtain ⟨e1, e2, e3⟩ := next k11
        refine Br_ndec (fun e => ?_) (fun e => ?_)
        · refine Sd_intro ((show 0 ≤ h ∧ h < 8 by omega)) ?_
          refine Sd_intro ((show 0 ≤ c ∧ c < 64 by omega)) ?_
          refine LdC_idx2 k11.want idx ?_
          refine ⟨(64 - (c + 1)).toNat, _, e3, ?_, c + 1, rfl, k11, e1, e2, rfl⟩
          exact ⟨rfl, rfl, rfl, last, trivial⟩
        · refine ⟨(64 - (c + 1)).toNat, _, e3, ?_, c + 1, rfl, k11, e1, e2, rfl⟩
          exact ⟨rfl, rfl, rfl, last, trivial⟩
      | false =>
        refine CallC_intro (Has_RS C h c k7.rs) (fun v w9 ⟨hv, f9⟩ => ?_)
        rw [hh] at hv
        subst hv
        have k9 := k7.no f9
        have q3 : wy = 3 := by
          rcases q3 with e | e
          · exact e
          · cases e
        refine Sd_intro ((by decide)) ?_
        refine Br_df q1 ?_
        refine Sd_intro ((by decide)) ?_
        refine CallC_intro (Way_RS h (IntKind.i64.wrap (c.tdiv 8)) k9.rs) (fun v w10 ⟨hv, f10⟩ => ?_)
        rw [ew, ← hwy] at hv
        subst hv
        have k10 := k9.no f10
        refine Br_df q2 ?_
        refine Sd_intro ((by decide)) ?_
        refine CallC_intro (Way_RS h (IntKind.i64.wrap (c.tdiv 8)) k10.rs) (fun v w11 ⟨hv, f11⟩ => ?_)
        rw [ew, ← hwy] at hv
        subst hv
        have k11 := k10.no f11
        obtain ⟨e1, e2, e3⟩ := next k11
        refine Br_nf q3 ?_
        refine ⟨(64 - (c + 1)).toNat, _, e3, ?_, c + 1, rfl, k11, e1, e2, rfl⟩
        exact ⟨rfl, rfl, rfl, last, trivial⟩
  refine LoopC_intro (α := Int) (fun i => [(0, .slice ad len cap), (3, .pointer (some ⟨b, 0, none⟩)), (5, .pointer (some ⟨pw, 0, none⟩)), (6, .int .i64 i)])
    (fun m i w5 => (∃ B A W, K11 w w5 b pw tw B N A W ∧ Wok N A W) ∧ 0 ≤ i ∧ i ≤ len ∧ i ≤ 300 ∧ m = (len - i).toNat)
    (len - 0 : Int).toNat 0 ⟨rfl, rfl, rfl, rfl, trivial⟩ ⟨⟨_, _, _, k4, W4⟩, Int.le_refl _, (show (0 : Int) ≤ len by omega), (show (0 : Int) ≤ 300 by omega), rfl⟩ (fun m i w5 hJ => Kp ?_)
  obtain ⟨⟨B5, A5, W5, k5, o5⟩, i0, i1, i2, hm⟩ := hJ
  have i0 : 0 ≤ i := i0
  have i1 : i ≤ len := i1
  have i2 : i ≤ 300 := i2
  clear k4 W4 hR hB
  refine Cut_no ?_
  refine Br_dec (fun g => ?_) (fun g => ?_)
  rotate_left
  · exact ⟨(), ⟨rfl, rfl, trivial⟩, _, _, _, k5, o5⟩
  refine Br_dec (fun g1 => ?_) (fun g1 => ?_)
  rotate_left
  · exact ⟨(), ⟨rfl, rfl, trivial⟩, _, _, _, k5, o5⟩
  have g : i < (len : Int) := g
  have g1 : i < 300 := g1
  have hm : m = (len - i).toNat := hm
  obtain ⟨x, cs, rfl, hcs, hcell⟩ := (hr.keep k5.fr).at (show i.toNat < len by omega)
  obtain ⟨kd, xa, xb, rfl⟩ := act11_row (hk cs (List.mem_of_getElem? hcs))
  refine Cut_no ?_
  refine Sd_intro ((show 0 ≤ i ∧ i < (len : Int) by omega)) ?_
  refine LdN_cells hcell rfl ?_
  refine NewC_blk (fun p w6 e_p h6 f6 s6 => ?_)
  refine StN_blk (h6) rfl (Nat.le_of_ble_eq_true rfl) (fun w7 h7 f7 s7 => ?_)
  have h7 : Blk w7 p t_gleanerlaw11_Act [.int .i64 kd, .int .i64 xa, .int .i64 xb] := h7
  have k7 := k5.no (f6.new f7 (fun _ _ e => e) (fun k e => by omega))
  have zp : w.heap.size ≤ p := by have := k5.fr.size; omega
  refine LdC_blk (h7) rfl ?_
  refine Sd_intro ((by decide)) ?_
  refine Sd_intro ((by decide)) ?_
  refine LdC_blk (h7) rfl ?_
  refine Sd_intro ((by decide)) ?_
  refine Sd_intro ((by decide)) ?_
  obtain ⟨hm0, hm1⟩ := pmod_ok xa 8 (by decide) (by decide)
  obtain ⟨cd0, cd1⟩ := pmod_ok xb 64 (by decide) (by decide)
  refine Cut (α := Unit) (fun _ => [(0, .slice (some x) len cap), (3, .pointer (some ⟨b, 0, none⟩)), (5, .pointer (some ⟨pw, 0, none⟩)), (6, .int .i64 i)]) (fun _ w8 => ∃ B A W, K11 w w8 b pw tw B N A W ∧ Wok N A W) ?_ (fun _ w8 hJ => Kp ?_)
  · -- the act
    refine LdC_blk (h7) rfl ?_
    refine Sd_intro ((by decide)) ?_
    refine Sd_intro ((by decide)) ?_
    obtain ⟨hm, ehm⟩ : ∃ h, h = pmod xa 8 := ⟨_, rfl⟩
    obtain ⟨cd, ecd⟩ : ∃ c, c = pmod xb 64 := ⟨_, rfl⟩
    rw [← ehm] at hm0 hm1
    rw [← ecd] at cd0 cd1
    have inN : 0 ≤ hm ∧ hm < N := ⟨hm0, by omega⟩
    have eR : inR N hm = true := decide_eq_true inN
    refine Br_dec (fun e => ?_) (fun e => ?_)
    · -- Clear
      clear e
      have hC := Clear_RS hm k7.rs
      rw [eR] at hC
      rw [ehm] at hC
      refine CallC_intro hC (fun v w8 ⟨hv, hR8, f8⟩ => ?_)
      rw [← ehm] at hR8
      obtain ⟨B8, k8⟩ := k7.sets hR8 (fun _ e => .inl e) f8
      refine Sd_intro ((show 0 ≤ pmod xa 8 ∧ pmod xa 8 < 8 by omega)) ?_
      refine StN_idx k8.want rfl ?_ (fun w9 h9 f9 s9 => ?_)
      · show 0 + (pmod xa 8).toNat * 64 + 64 ≤ _
        rw [bools_len]; omega
      have h9 : Blk w9 pw tw (over (bools W5 512) (0 + (pmod xa 8).toNat * 64) (List.replicate 64 (.bool false))) := h9
      rw [row_clear (by omega)] at h9
      refine ⟨(), ⟨rfl, rfl, rfl, rfl, trivial⟩, _, _, _, k8.put h9 f9, fun h c a1 a2 a3 a4 => ?_⟩
      obtain ⟨p1, p2⟩ := o5 h c a1 a2 a3 a4
      rw [clear_has inN]
      have ed : (h * 64 + c).toNat / 64 = (pmod xa 8).toNat ↔ h = hm := by omega
      by_cases e : h = hm
      · rw [decide_eq_true e, decide_eq_true (ed.2 e)]; simp
      · rw [decide_eq_false e, decide_eq_false (fun q => e (ed.1 q))]
        simp only [Bool.not_false, Bool.and_true]
        refine ⟨p1, fun q => ?_⟩
        rcases p2 q with q | q
        · left
          unfold clearA dropA
          rw [eR, if_pos rfl, if_neg (by simpa using e)]; exact q
        · exact .inr q
    refine Br_dec (fun e' => ?_) (fun e' => ?_)
    · -- Scrub
      clear e e'
      have hC := Scrub_RS hm k7.rs
      rw [eR] at hC
      rw [ehm] at hC
      refine CallC_intro hC (fun v w8 ⟨hv, hR8, f8⟩ => ?_)
      rw [← ehm] at hR8
      obtain ⟨B8, k8⟩ := k7.sets hR8 (fun _ e => .inl e) f8
      have st0 : bools W5 512 = bools (Wst W5 (pmod xa 8).toNat 0 0) 512 := bools_congr fun j _ => by
        unfold Wst
        rw [decide_eq_false (by omega)]; simp
      have h8 := k8.want
      rw [st0] at h8
      have k8 := k8.put h8 (Fr.refl _ _)
      have ew : IntKind.i64.wrap (8 * pmod xa 8) = 8 * pmod xa 8 := wrap_i64 (by omega) (by omega)
      refine LoopC_intro (α := Int) (fun h => [(0, .slice (some x) len cap), (3, .pointer (some ⟨b, 0, none⟩)), (5, .pointer (some ⟨pw, 0, none⟩)), (6, .int .i64 i), (8, .int .i64 (pmod xa 8)), (10, .int .i64 h)])
        (fun m h w9 => K11 w w9 b pw tw B8 N (scrubA N A5 hm) (Wst W5 (pmod xa 8).toNat h.toNat 0) ∧ 0 ≤ h ∧ h ≤ 8 ∧ m = (8 - h).toNat) 8 0 ⟨rfl, rfl, rfl, rfl, rfl, rfl, trivial⟩ ⟨k8, Int.le_refl _, (show (0 : Int) ≤ 8 by decide), rfl⟩ (fun m9 h w9 hJ => Kp ?_)
      obtain ⟨k9, h0, h1, hm9⟩ := hJ
      have h0 : 0 ≤ h := h0
      have h1 : h ≤ 8 := h1
      have hm9 : m9 = (8 - h).toNat := hm9
      refine Cut_no ?_
      refine Br_dec (fun g2 => ?_) (fun g2 => ?_)
      rotate_left
      · have g2 : ¬ h < 8 := g2
        have e8 : h.toNat = 8 := by omega
        rw [e8] at k9
        refine ⟨(), ⟨rfl, rfl, rfl, rfl, trivial⟩, _, _, _, k9, fun h c a1 a2 a3 a4 => ?_⟩
        obtain ⟨p1, p2⟩ := o5 h c a1 a2 a3 a4
        rw [scrub_has inN]
        have ed : ((h * 64 + c).toNat / 64 < 8 ∨ ((h * 64 + c).toNat / 64 = 8 ∧ (h * 64 + c).toNat % 64 < 0)) ∧ (h * 64 + c).toNat % 64 / 8 = (pmod xa 8).toNat ↔ c / 8 = hm := by omega
        have eq : c / N = hm ↔ c / 8 = hm := by rw [hN]
        unfold Wst
        by_cases e : c / 8 = hm
        · rw [decide_eq_true (eq.2 e), decide_eq_true (ed.2 e)]; simp
        · rw [decide_eq_false (fun q => e (eq.1 q)), decide_eq_false (fun q => e (ed.1 q))]
          simp only [Bool.not_false, Bool.and_true]
          refine ⟨p1, fun q => ?_⟩
          rcases p2 q with q | q
          · left
            unfold scrubA dropA
            rw [eR, if_pos rfl, if_neg (by simpa using fun q => e (eq.1 q))]; exact q
          · exact .inr q
      have g2 : h < 8 := g2
      have h9 := k9.want
      rw [Wst_zero] at h9
      have k9 := k9.put h9 (Fr.refl _ _)
      refine Cut_no ?_
      refine LoopC_intro (α := Int) (fun c => [(0, .slice (some x) len cap), (3, .pointer (some ⟨b, 0, none⟩)), (5, .pointer (some ⟨pw, 0, none⟩)), (6, .int .i64 i), (8, .int .i64 (pmod xa 8)), (10, .int .i64 h), (11, .int .i64 c)])
        (fun m c w10 => K11 w w10 b pw tw B8 N (scrubA N A5 hm) (Wst W5 (pmod xa 8).toNat h.toNat c.toNat) ∧ 8 * pmod xa 8 ≤ c ∧ c ≤ 8 * pmod xa 8 + 8 ∧ m = (8 * pmod xa 8 + 8 - c).toNat) 8 (8 * pmod xa 8) ⟨rfl, rfl, rfl, rfl, rfl, rfl, look_int rfl ew, trivial⟩ ⟨?_, Int.le_refl _, (show 8 * pmod xa 8 ≤ 8 * pmod xa 8 + 8 by omega), (show 8 = (8 * pmod xa 8 + 8 - 8 * pmod xa 8).toNat by omega)⟩ (fun m10 c w10 hJ => Kp ?_)
      · rw [show (8 * pmod xa 8).toNat = 8 * (pmod xa 8).toNat by omega]; exact k9
      obtain ⟨k10, c0, c1, hm10⟩ := hJ
      have c0 : 8 * pmod xa 8 ≤ c := c0
      have c1 : c ≤ 8 * pmod xa 8 + 8 := c1
      have hm10 : m10 = (8 * pmod xa 8 + 8 - c).toNat := hm10
      have ew2 : IntKind.i64.wrap (IntKind.i64.wrap (8 * pmod xa 8) + 8) = 8 * pmod xa 8 + 8 := by rw [ew]; exact wrap_i64 (by omega) (by omega)
      refine Cut_no ?_
      refine Br_dec (fun g3 => ?_) (fun g3 => ?_)
      rotate_left
      · have g3 : ¬ c < IntKind.i64.wrap (IntKind.i64.wrap (8 * pmod xa 8) + 8) := g3
        rw [ew2] at g3
        have h10 := k10.want
        rw [show c.toNat = 8 * (pmod xa 8).toNat + 8 by omega, Wst_end (by omega)] at h10
        have k10 := k10.put h10 (Fr.refl _ _)
        rw [show h.toNat + 1 = (h + 1).toNat by omega] at k10
        refine ⟨(8 - (h + 1)).toNat, _, by omega, ?_, h + 1, rfl, k10, (show 0 ≤ h + 1 by omega), (show h + 1 ≤ 8 by omega), rfl⟩
        exact ⟨rfl, rfl, rfl, rfl, rfl, look_int rfl (wrap_i64 (by omega) (by omega)), trivial⟩
      have g3 : c < IntKind.i64.wrap (IntKind.i64.wrap (8 * pmod xa 8) + 8) := g3
      rw [ew2] at g3
      refine Cut_no ?_
      refine Sd_intro ((show 0 ≤ h ∧ h < 8 by omega)) ?_
      refine Sd_intro ((show 0 ≤ c ∧ c < 64 by omega)) ?_
      refine StC_idx2 k10.want rfl (bools_get (show 0 + h.toNat * 64 + c.toNat * 1 < 512 by omega)) (fun w11 h11 f11 s11 => ?_)
      have h11 : Blk w11 pw tw ((bools (Wst W5 (pmod xa 8).toNat h.toNat c.toNat) 512).set (0 + h.toNat * 64 + c.toNat * 1) (.bool false)) := h11
      rw [bools_set, show 0 + h.toNat * 64 + c.toNat * 1 = h.toNat * 64 + c.toNat by omega, Wst_next (by omega) (by omega), show c.toNat + 1 = (c + 1).toNat by omega] at h11
      refine ⟨(8 * pmod xa 8 + 8 - (c + 1)).toNat, _, by omega, ?_, c + 1, rfl, k10.put h11 f11, (show 8 * pmod xa 8 ≤ c + 1 by omega), (show c + 1 ≤ 8 * pmod xa 8 + 8 by omega), rfl⟩
      exact ⟨rfl, rfl, rfl, rfl, rfl, rfl, look_int rfl (wrap_i64 (by omega) (by omega)), trivial⟩
    · -- Add
      clear e e'
      have hC := Add_RS C hm cd k7.rs
      rw [ehm, ecd] at hC
      refine CallC_intro hC (fun v w8 ⟨hv, ⟨B', hR8, hB8⟩, f8⟩ => ?_)
      rw [← ehm, ← ecd] at hv hR8
      obtain ⟨B8, k8⟩ := k7.sets hR8 hB8 f8
      have hr : 0 ≤ hm ∧ hm < N ∧ 0 ≤ cd ∧ cd < N * N := ⟨hm0, by omega, cd0, by rw [hN]; omega⟩
      have eq : IntKind.i64.wrap ((pmod xb 64).tdiv 8) = cd / 8 := by rw [← ecd, tdiv_eq cd0]; exact wrap_i64 (by omega) (by omega)
      by_cases hne : hm = cd / N
      · have e3 : addA N N A5 hm cd = (false, 3, A5) := by unfold addA; rw [if_pos hr, if_pos hne]
        rw [e3] at hv k8
        subst hv
        refine Cut_no ?_
        refine Sd_intro ((by decide)) ?_
        refine Br_f (by show (!(decide ((3 : Int) = 3) == decide (IntKind.i64.wrap ((pmod xb 64).tdiv 8) = pmod xa 8))) = false; rw [decide_eq_true (show IntKind.i64.wrap ((pmod xb 64).tdiv 8) = pmod xa 8 by rw [eq, ← ehm, hne, hN])]; rfl) ?_
        exact ⟨(), ⟨rfl, rfl, rfl, rfl, trivial⟩, _, _, _, k8, o5⟩
      · obtain ⟨a1, a2, a3, a4, a5⟩ := add_has C k7.rs.aok hr hne
        rw [a1] at hv
        subst hv
        refine Cut_no ?_
        refine Sd_intro ((by decide)) ?_
        refine Br_f (by show (!(decide ((0 : Int) = 3) == decide (IntKind.i64.wrap ((pmod xb 64).tdiv 8) = pmod xa 8))) = false; rw [decide_eq_false (show ¬ IntKind.i64.wrap ((pmod xb 64).tdiv 8) = pmod xa 8 by rw [eq, ← ehm]; intro e; exact hne (by rw [hN]; exact e.symm))]; rfl) ?_
        refine Sd_intro ((show 0 ≤ pmod xa 8 ∧ pmod xa 8 < 8 by omega)) ?_
        refine Sd_intro ((show 0 ≤ pmod xb 64 ∧ pmod xb 64 < 64 by omega)) ?_
        refine StC_idx2 k8.want rfl (bools_get (show 0 + (pmod xa 8).toNat * 64 + (pmod xb 64).toNat * 1 < 512 by omega)) (fun w9 h9 f9 s9 => ?_)
        have h9 : Blk w9 pw tw ((bools W5 512).set (0 + (pmod xa 8).toNat * 64 + (pmod xb 64).toNat * 1) (.bool true)) := h9
        rw [bools_set, show 0 + (pmod xa 8).toNat * 64 + (pmod xb 64).toNat * 1 = (hm * 64 + cd).toNat by omega] at h9
        refine ⟨(), ⟨rfl, rfl, rfl, rfl, trivial⟩, _, _, _, k8.put h9 f9, fun h c b1 b2 b3 b4 => ?_⟩
        obtain ⟨p1, p2⟩ := o5 h c b1 b2 b3 b4
        unfold upd
        by_cases e : (h * 64 + c).toNat = (hm * 64 + cd).toNat
        · rw [if_pos e]
          have e1 : h = hm := by omega
          have e2 : c = cd := by omega
          rw [e1, e2]
          exact ⟨fun _ => a2, fun _ => .inr rfl⟩
        · rw [if_neg e]
          refine ⟨fun q => a3 _ _ (p1 q), fun q => ?_⟩
          rcases a4 _ _ q with q | ⟨q1, q2⟩ | q
          · rcases p2 q with q | q
            · exact .inl (a5 _ q)
            · exact .inr q
          · exact absurd (by rw [q1, q2]) e
          · exact .inl q
  -- how many are fine
  obtain ⟨B8, A8, W8, k8, o8⟩ := hJ
  refine LoopC_intro (α := Int) (fun h => [(0, .slice (some x) len cap), (3, .pointer (some ⟨b, 0, none⟩)), (5, .pointer (some ⟨pw, 0, none⟩)), (6, .int .i64 i), (14, .int .i64 h)])
    (fun m h w9 => K11 w w9 b pw tw B8 N A8 W8 ∧ 0 ≤ h ∧ h ≤ 8 ∧ m = (8 - h).toNat) 8 0 ⟨rfl, rfl, rfl, rfl, rfl, trivial⟩ ⟨k8, Int.le_refl _, (show (0 : Int) ≤ 8 by decide), rfl⟩ (fun m9 h w9 hJ => Kp ?_)
  obtain ⟨k9, h0, h1, hm9⟩ := hJ
  have h0 : 0 ≤ h := h0
  have h1 : h ≤ 8 := h1
  have hm9 : m9 = (8 - h).toNat := hm9
  refine Cut_no ?_
  refine Br_dec (fun g2 => ?_) (fun g2 => ?_)
  rotate_left
  · refine ⟨(len - (i + 1)).toNat, _, by omega, ?_, i + 1, rfl, ⟨_, _, _, k9, o8⟩, (show 0 ≤ i + 1 by omega), (show i + 1 ≤ (len : Int) by omega), (show i + 1 ≤ 300 by omega), rfl⟩
    exact ⟨rfl, rfl, rfl, look_int rfl (wrap_i64 (by omega) (by omega)), trivial⟩
  have g2 : h < 8 := g2
  refine Cut_no ?_
  refine Cut_no ?_
  refine LoopC_intro (α := Int × Int) (fun q => [(0, .slice (some x) len cap), (3, .pointer (some ⟨b, 0, none⟩)), (5, .pointer (some ⟨pw, 0, none⟩)), (6, .int .i64 i), (14, .int .i64 h), (15, .int .i64 q.1), (16, .int .i64 q.2)])
    (fun m q w10 => K11 w w10 b pw tw B8 N A8 W8 ∧ 0 ≤ q.2 ∧ q.2 ≤ 8 ∧ q.1 = (((rng q.2).filter fun s => (A8 (h, s)).isFi).length : Nat) ∧ m = (8 - q.2).toNat) 8 (0, 0) ⟨rfl, rfl, rfl, rfl, rfl, rfl, rfl, trivial⟩ ⟨k9, Int.le_refl _, (show (0 : Int) ≤ 8 by decide), rfl, rfl⟩ (fun m10 q w10 hJ => Kp ?_)
  obtain ⟨n, r⟩ := q
  obtain ⟨k10, r0, r1, hn, hm10⟩ := hJ
  have r0 : 0 ≤ r := r0
  have r1 : r ≤ 8 := r1
  have hn : n = (((rng r).filter fun s => (A8 (h, s)).isFi).length : Nat) := hn
  have hm10 : m10 = (8 - r).toNat := hm10
  refine Cut_no ?_
  refine Br_dec (fun g3 => ?_) (fun g3 => ?_)
  rotate_left
  · have g3 : ¬ r < 8 := g3
    have h4 := k10.rs.aok.five h
    unfold finesA at h4
    rw [show N = r by omega, ← Int.ofNat_le, ← hn] at h4
    refine Br_df (show ¬ n > 4 by have : n ≤ 4 := h4; omega) ?_
    refine ⟨(8 - (h + 1)).toNat, _, by omega, ?_, h + 1, rfl, k10, (show 0 ≤ h + 1 by omega), (show h + 1 ≤ 8 by omega), rfl⟩
    exact ⟨rfl, rfl, rfl, rfl, look_int rfl (wrap_i64 (by omega) (by omega)), trivial⟩
  have g3 : r < 8 := g3
  refine Cut_no ?_
  refine CallC_intro (Way_RS h r k10.rs) (fun v w11 ⟨hv, f11⟩ => ?_)
  subst hv
  have k11 := k10.no f11
  have hfi := way_fi (A := A8) (h := h) (r := r) (N := N) ⟨h0, by omega⟩
  have hle : ((rng r).filter fun s => (A8 (h, s)).isFi).length ≤ 8 := by
    refine Nat.le_trans (List.length_filter_le _ _) ?_
    unfold rng
    rw [List.length_map, List.length_range]; omega
  refine Br_dec (fun g4 => ?_) (fun g4 => ?_)
  · refine ⟨(8 - (r + 1)).toNat, _, by omega, ?_, (n + 1, r + 1), rfl, k11, (show 0 ≤ r + 1 by omega), (show r + 1 ≤ 8 by omega), ?_, rfl⟩
    · exact ⟨rfl, rfl, rfl, rfl, rfl, look_int rfl (wrap_i64 (by omega) (by omega)), look_int rfl (wrap_i64 (by omega) (by omega)), trivial⟩
    · show n + 1 = (((rng (r + 1)).filter fun s => (A8 (h, s)).isFi).length : Nat)
      rw [rng_snoc r0, List.filter_append, List.length_append, List.filter_cons, if_pos (hfi.1 g4)]
      show n + 1 = (((rng r).filter fun s => (A8 (h, s)).isFi).length + 1 : Nat)
      omega
  · refine ⟨(8 - (r + 1)).toNat, _, by omega, ?_, (n, r + 1), rfl, k11, (show 0 ≤ r + 1 by omega), (show r + 1 ≤ 8 by omega), ?_, rfl⟩
    · exact ⟨rfl, rfl, rfl, rfl, rfl, rfl, look_int rfl (wrap_i64 (by omega) (by omega)), trivial⟩
    · show n = (((rng (r + 1)).filter fun s => (A8 (h, s)).isFi).length : Nat)
      rw [rng_snoc r0, List.filter_append, List.length_append, List.filter_cons, if_neg (fun e => g4 (hfi.2 e))]
      show n = (((rng r).filter fun s => (A8 (h, s)).isFi).length + 0 : Nat)
      omega
end Go.Proofs.YtfokdnmidfmddaaDoor
