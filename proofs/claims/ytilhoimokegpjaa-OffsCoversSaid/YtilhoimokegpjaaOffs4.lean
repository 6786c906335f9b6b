/- Layer 6 (offs): OffsCovers. -/
import Derived.Test.YtilhoimokegpjaaVcI
import Derived.Test.YtilhoimokegpjaaOffs3
namespace Go.Proofs.Ytilhoimokegpjaa
open Go.Vc

def ints (l : List Int) : List Value := l.map (.int .i64)
theorem ints_get? {l : List Int} {k : Nat} {x : Int} (h : l[k]? = some x) : (ints l)[k]? = some (.int .i64 x) := by simp [ints, h]
theorem ints_len (l : List Int) : (ints l).length = l.length := by simp [ints]
/-- What the table knows of the objects that were put. -/
def Knows (at_ : Int) (starts bk : List Int) : Prop :=
  starts.length = at_.toNat ∧ (∀ (j : Nat) (s : Int), starts[j]? = some s → 0 ≤ s ∧ s ≤ j) ∧ bk.length = 32 ∧
  (∀ c : Nat, c < 32 → ∀ x, bk[c]? = some x → if 8 * (c : Int) < at_ then ∃ s, starts[8 * c]? = some s ∧ x = 8 * (c : Int) - s + 1 else x = 0)
theorem Knows.start : Knows 0 [] (List.replicate 32 0) := by
  refine ⟨rfl, fun j s h => by simp at h, rfl, fun c hc x hx => ?_⟩
  rw [if_neg (by omega)]
  rw [List.getElem?_replicate, if_pos hc] at hx
  injection hx with hx; exact hx.symm
theorem Knows.put {at_ n : Int} {starts bk bk' : List Int} (h : Knows at_ starts bk) (h0 : 0 ≤ at_) (h1 : 1 ≤ n)
    (hl : bk'.length = bk.length) (hb : ∀ k : Nat, k < bk.length → bk'[k]? = if at_ ≤ (k : Int) * 8 ∧ (k : Int) * 8 < at_ + n then some ((k : Int) * 8 - at_ + 1) else bk[k]?) :
    Knows (at_ + n) (starts ++ List.replicate n.toNat at_) bk' := by
  obtain ⟨q1, q2, q3, q4⟩ := h
  refine ⟨by rw [List.length_append, List.length_replicate, q1]; omega, fun j s hs => ?_, by omega, fun c hc x hx => ?_⟩
  · rw [List.getElem?_append] at hs
    split at hs
    · exact q2 j s hs
    · rw [List.getElem?_replicate] at hs
      split at hs
      · injection hs with hs; omega
      · cases hs
  · rw [hb c (by omega)] at hx
    by_cases g : at_ ≤ (c : Int) * 8 ∧ (c : Int) * 8 < at_ + n
    · rw [if_pos g] at hx
      injection hx with hx
      rw [if_pos (by omega)]
      refine ⟨at_, ?_, by omega⟩
      rw [List.getElem?_append, if_neg (by omega), List.getElem?_replicate, if_pos (by omega)]
    · rw [if_neg g] at hx
      have := q4 c hc x hx
      by_cases g2 : 8 * (c : Int) < at_
      · rw [if_pos g2] at this
        obtain ⟨s, hs, e⟩ := this
        rw [if_pos (by omega)]
        refine ⟨s, ?_, e⟩
        rw [List.getElem?_append, if_pos (by omega)]; exact hs
      · rw [if_neg g2] at this
        rw [if_neg (by omega)]; exact this
theorem OffsCovers_spec (a : Option Addr) (len cap : Nat) (zs : List Int) (w : World) (h : RowArg w .u8 a len zs) (hz : ∀ z ∈ zs, 0 ≤ z ∧ z ≤ 255) (hlen : len ≤ 9223372036854775807) :
    CallC Pr f_gleanerlaw06_OffsCovers [.slice a len cap] w (fun v w' => v = .bool true ∧ Fr No w w') := by
  refine call_sound T_ok fun_gleanerlaw06_OffsCovers rfl (by kernel_rfl) rfl ?_
  refine CallC_intro (awake6_spec w) (fun v w1 ⟨hv, f1⟩ => ?_)
  subst hv
  refine CallC_intro (small6_spec w1) (fun v w2 ⟨hv, f2⟩ => ?_)
  subst hv
  refine CallC_intro (offs_New_spec 256 64 8 4 32 192 w2 (by omega) (by omega) (by omega) (by decide)) (fun v w3 ⟨b, r, hv, h3, f3, hb, hr⟩ => ?_)
  subst hv
  have f3 := (f1.no f2).no f3
  have h3b := h3.tab.lt
  have h3r := h3.row.lt
  have sz1 := (f1.no f2).size
  refine LoopC_intro (α := Int × Value × Int) (fun x => [(0, .slice a len cap), (3, .pointer (some ⟨b, 0, none⟩)), (5, .int .i64 x.1), (6, x.2.1), (7, .int .i64 x.2.2)])
    (fun m x w1 => ∃ bk starts, IsOffs w1 b r 256 8 bk ∧ Knows x.1 starts bk ∧ w1.ownsRow w3.heap.size 3 1 x.2.1 starts.length (ints starts) ∧ Fr No w w1 ∧ w3.heap.size ≤ w1.heap.size ∧ 0 ≤ x.1 ∧ x.1 ≤ 256 ∧ 0 ≤ x.2.2 ∧ x.2.2 ≤ len ∧ m = (len - x.2.2).toNat)
    (len - 0 : Int).toNat (0, .slice none 0 0, 0) ⟨rfl, rfl, rfl, rfl, rfl, trivial⟩
    ⟨_, [], h3, Knows.start, World.ownsRow_nil _ _ _ _, f3, Nat.le_refl _, (show (0 : Int) ≤ 0 by omega), (show (0 : Int) ≤ 256 by omega), (show (0 : Int) ≤ 0 by omega), (show (0 : Int) ≤ len by omega), rfl⟩ ?_
  rintro m ⟨at_, sv, i⟩ w4 ⟨bk, starts, hI, hK, hO, hF, hS, a0, a1, i0, i1, hm⟩
  have hK : Knows at_ starts bk := hK
  have hO : w4.ownsRow w3.heap.size 3 1 sv starts.length (ints starts) := hO
  have a0 : 0 ≤ at_ := a0
  have a1 : at_ ≤ 256 := a1
  have i0 : 0 ≤ i := i0
  have i1 : i ≤ len := i1
  have hm : m = (len - i).toNat := hm
  refine Br_dec (fun g0 => ?_) (fun g0 => ?_)
  · have g0 : i < (len : Int) := g0
    have h4 := h.keep hF
    rcases h4 with ⟨_, h40, _⟩ | ⟨x, hx, hxl, hxc⟩
    · omega
    subst hx
    refine Sd_intro ⟨i0, g0⟩ ?_
    have hi : i.toNat < zs.length := by omega
    have hzi := hz _ (List.getElem_mem hi)
    have hxi := hxc i.toNat _ (List.getElem?_eq_getElem hi)
    generalize zs[i.toNat] = z at hzi hxi
    refine LdC_intro (show w4.cell? (x.add (i.toNat * 1)) = _ by rw [Nat.mul_one]; exact hxi) ?_
    refine Sd_intro (by omega) ?_
    have en : IntKind.i64.wrap (Int.tmod (IntKind.i64.wrap z) 40 + 1) = z % 40 + 1 := by
      rw [wrap_i64 (n := z) (by omega) (by omega), tmod_eq (by omega), wrap_i64 (by omega) (by omega)]
    have nb : 1 ≤ z % 40 + 1 ∧ z % 40 + 1 ≤ 40 := by omega
    refine Br_dec (fun g1 => ?_) (fun g1 => ?_)
    · clear g1
      refine LoopC_intro (α := Int) (fun c => [(3, .pointer (some ⟨b, 0, none⟩)), (5, .int .i64 at_), (6, sv), (10, .int .i64 c)])
        (fun m c w1 => IsOffs w1 b r 256 8 bk ∧ w1.ownsRow w3.heap.size 3 1 sv starts.length (ints starts) ∧ Fr No w w1 ∧ 0 ≤ c ∧ c ≤ 32 ∧ m = (32 - c).toNat)
        (32 - 0 : Int).toNat 0 ⟨rfl, rfl, rfl, rfl, trivial⟩ ⟨hI, hO, hF, (show (0 : Int) ≤ 0 by omega), (show (0 : Int) ≤ 32 by omega), rfl⟩ ?_
      rintro m c w5 ⟨hI, hO, hF, c0, c1, hm⟩
      refine Br_dec (fun e0 => ?_) (fun e0 => ?_)
      · have e0 : c < 32 := e0
        obtain ⟨k1, k2, k3, k4⟩ := hK
        have hcl : c.toNat < bk.length := by omega
        have hbc := List.getElem?_eq_getElem hcl
        generalize bk[c.toNat] = y at hbc
        have k4 := k4 c.toNat (by omega) y hbc
        have ec : ((c.toNat : Nat) : Int) = c := by omega
        rw [ec] at k4
        have e8 : IntKind.i64.wrap (8 * c) = 8 * c := wrap_i64 (by omega) (by omega)
        have e1 : IntKind.i64.wrap (c + 1) = c + 1 := wrap_i64 (by omega) (by omega)
        by_cases g2 : 8 * c < at_
        · rw [if_pos g2] at k4
          obtain ⟨st, hst, hy⟩ := k4
          have k2 := k2 _ _ hst
          refine CallC_intro (First_in c y w5 hI c0 hbc (by omega)) (fun v w6 ⟨hv, f6⟩ => ?_)
          rw [if_neg (by omega)] at hv
          subst hv
          refine Br_df (show ¬ (IntKind.i64.wrap (8 * c) ≥ at_) by rw [e8]; omega) ?_
          refine Br_dt (show IntKind.i64.wrap (8 * c) < at_ by rw [e8]; omega) ?_
          rcases own_cases hO with ⟨_, _, hnil⟩ | ⟨g, cp, cur, hv, hg, hB, ht, hn⟩
          · exfalso
            have := lt_of_get? hst
            have h0 : starts = [] := by cases starts with | nil => rfl | cons _ _ => cases hnil
            rw [h0] at this; exact absurd this (by simp)
          subst hv
          have hlt := lt_of_get? hst
          refine Sd_intro (show 0 ≤ IntKind.i64.wrap (8 * c) ∧ IntKind.i64.wrap (8 * c) < (starts.length : Int) by rw [e8]; omega) ?_
          refine LdC_idx (v := .int .i64 st) (hB.keep f6 id) ?_ ?_
          · show cur[0 + (IntKind.i64.wrap (8 * c)).toNat * 1]? = _
            rw [e8, Nat.mul_one, Nat.zero_add]
            have h1 : (ints starts)[8 * c.toNat]? = some (.int .i64 st) := ints_get? hst
            rw [← ht, List.getElem?_take] at h1
            split at h1
            · rw [show (8 * c).toNat = 8 * c.toNat by omega]; exact h1
            · cases h1
          refine Br_nf (show c * 8 - (y - 1) = st by omega) ?_
          refine ⟨(32 - (c + 1)).toNat, _, by omega, ?_, c + 1, rfl, hI.keep f6 id id, own_keep hO f6 (fun _ _ => id), hF.no f6, by omega, by omega, rfl⟩
          · exact ⟨rfl, rfl, rfl, look_int rfl e1, trivial⟩
        · rw [if_neg g2] at k4
          refine CallC_intro (First_in c y w5 hI c0 hbc (by omega)) (fun v w6 ⟨hv, f6⟩ => ?_)
          rw [if_pos k4] at hv
          subst hv
          refine Br_dt (show IntKind.i64.wrap (8 * c) ≥ at_ by rw [e8]; omega) ?_
          refine Br_df (show ¬ (IntKind.i64.wrap (8 * c) < at_) by rw [e8]; omega) ?_
          refine ⟨(32 - (c + 1)).toNat, _, by omega, ?_, c + 1, rfl, hI.keep f6 id id, own_keep hO f6 (fun _ _ => id), hF.no f6, by omega, by omega, rfl⟩
          · exact ⟨rfl, rfl, rfl, look_int rfl e1, trivial⟩
      · exact ⟨rfl, hF⟩
    · have g1 : ¬ (IntKind.i64.wrap (at_ + IntKind.i64.wrap (Int.tmod (IntKind.i64.wrap z) 40 + 1)) > 256) := g1
      rw [en, wrap_i64 (by omega) (by omega)] at g1
      refine CallC_intro (Put_spec at_ _ w4 hI a0 (show 1 ≤ IntKind.i64.wrap (Int.tmod (IntKind.i64.wrap z) 40 + 1) by rw [en]; omega) (show at_ + IntKind.i64.wrap (Int.tmod (IntKind.i64.wrap z) 40 + 1) ≤ 256 by rw [en]; omega) (by omega)) (fun v w5 ⟨hv, ⟨bk5, h5, l5, q5⟩, f5⟩ => ?_)
      subst hv
      rw [en] at q5
      have hK5 := hK.put a0 nb.1 l5 q5
      have hF5 : Fr No w w5 := hF.new f5 (fun _ _ e => e) (fun k e => by omega)
      have hO5 := own_keep hO f5 (fun k hk e => by omega)
      have hS5 : w3.heap.size ≤ w5.heap.size := Nat.le_trans hS f5.size
      refine LoopC_intro (α := Value × Int) (fun x => [(0, .slice _ len cap), (3, .pointer (some ⟨b, 0, none⟩)), (5, .int .i64 at_), (6, x.1), (7, .int .i64 i), (8, .int .i64 (z % 40 + 1)), (9, .int .i64 x.2)])
        (fun m x w1 => IsOffs w1 b r 256 8 bk5 ∧ w1.ownsRow w3.heap.size 3 1 x.1 (starts ++ List.replicate x.2.toNat at_).length (ints (starts ++ List.replicate x.2.toNat at_)) ∧ Fr No w w1 ∧ w3.heap.size ≤ w1.heap.size ∧ 0 ≤ x.2 ∧ x.2 ≤ z % 40 + 1 ∧ m = (z % 40 + 1 - x.2).toNat)
        (z % 40 + 1 - 0).toNat (sv, 0) ⟨rfl, rfl, rfl, rfl, rfl, look_int rfl en, rfl, trivial⟩ ⟨h5, by simpa using hO5, hF5, hS5, (show (0 : Int) ≤ 0 by omega), (show (0 : Int) ≤ z % 40 + 1 by omega), rfl⟩ ?_
      rintro m2 ⟨v2, k⟩ w6 ⟨hI6, hO6, hF6, hS6, k0, k1, hm2⟩
      have hO6 : w6.ownsRow w3.heap.size 3 1 v2 (starts ++ List.replicate k.toNat at_).length (ints (starts ++ List.replicate k.toNat at_)) := hO6
      have k0 : 0 ≤ k := k0
      have k1 : k ≤ z % 40 + 1 := k1
      have hm2 : m2 = (z % 40 + 1 - k).toNat := hm2
      refine Br_dec (fun g2 => ?_) (fun g2 => ?_)
      · have g2 : k < z % 40 + 1 := g2
        refine NewC_blk (fun b7 w7 hb7 h7 f7 _ => ?_)
        have hlen : (starts ++ List.replicate k.toNat at_).length ≤ 600 := by
          rw [List.length_append, List.length_replicate, hK.1]; omega
        refine ApC T_ok (e := 3) rfl rfl rfl (by decide) (own_keep hO6 f7 (fun _ _ => id)) (Nat.le_trans hS6 f7.size) h7 (news := [.int .i64 at_]) rfl rfl rfl (by omega) (show _ * 8 ≤ 140737488355328 by omega) (fun v8 w8 o8 f8 => ?_)
        have e1 : IntKind.i64.wrap (k + 1) = k + 1 := wrap_i64 (by omega) (by omega)
        have f68 : Fr (fun j => v2.ownBlock = some j) w6 w8 := f7.noL f8
        have ge : ∀ j, v2.ownBlock = some j → w3.heap.size ≤ j := fun j hj => own_ge hO6 j hj
        have e2 : starts ++ List.replicate (k + 1).toNat at_ = (starts ++ List.replicate k.toNat at_) ++ [at_] := by
          rw [show (k + 1).toNat = k.toNat + 1 by omega, List.replicate_succ', List.append_assoc]
        refine ⟨(z % 40 + 1 - (k + 1)).toNat, _, by omega, ?_, (v8, k + 1), rfl, hI6.keep f68 (fun e => by have := ge _ e; omega) (fun e => by have := ge _ e; omega), ?_, hF6.new f68 (fun _ _ e => e) (fun j e => by have := ge _ e; omega), Nat.le_trans hS6 f68.size, (show (0 : Int) ≤ k + 1 by omega), (show k + 1 ≤ z % 40 + 1 by omega), rfl⟩
        · exact ⟨rfl, rfl, rfl, rfl, rfl, rfl, look_int rfl e1, trivial⟩
        show w8.ownsRow w3.heap.size 3 1 v8 (starts ++ List.replicate (k + 1).toNat at_).length (ints (starts ++ List.replicate (k + 1).toNat at_))
        rw [e2, List.length_append]
        have : ints (starts ++ List.replicate k.toNat at_ ++ [at_]) = ints (starts ++ List.replicate k.toNat at_) ++ [.int .i64 at_] := by simp [ints]
        rw [this]
        exact o8
      · have g2 : ¬ k < z % 40 + 1 := g2
        have ek : k = z % 40 + 1 := by omega
        subst ek
        have e1 : IntKind.i64.wrap (i + 1) = i + 1 := wrap_i64 (by omega) (by omega)
        have e3 : IntKind.i64.wrap (at_ + (z % 40 + 1)) = at_ + (z % 40 + 1) := wrap_i64 (by omega) (by omega)
        refine ⟨(len - (i + 1)).toNat, _, by omega, ?_, (at_ + (z % 40 + 1), v2, i + 1), rfl, bk5, _, hI6, hK5, hO6, hF6, hS6, (show (0 : Int) ≤ at_ + (z % 40 + 1) by omega), (show at_ + (z % 40 + 1) ≤ 256 by omega), (show (0 : Int) ≤ i + 1 by omega), (show i + 1 ≤ len by omega), rfl⟩
        · exact ⟨rfl, rfl, look_int rfl e3, rfl, look_int rfl e1, trivial⟩
  · clear g0
    refine LoopC_intro (α := Int) (fun c => [(3, .pointer (some ⟨b, 0, none⟩)), (5, .int .i64 at_), (6, sv), (10, .int .i64 c)])
      (fun m c w1 => IsOffs w1 b r 256 8 bk ∧ w1.ownsRow w3.heap.size 3 1 sv starts.length (ints starts) ∧ Fr No w w1 ∧ 0 ≤ c ∧ c ≤ 32 ∧ m = (32 - c).toNat)
      (32 - 0 : Int).toNat 0 ⟨rfl, rfl, rfl, rfl, trivial⟩ ⟨hI, hO, hF, (show (0 : Int) ≤ 0 by omega), (show (0 : Int) ≤ 32 by omega), rfl⟩ ?_
    rintro m c w5 ⟨hI, hO, hF, c0, c1, hm⟩
    refine Br_dec (fun e0 => ?_) (fun e0 => ?_)
    · have e0 : c < 32 := e0
      obtain ⟨k1, k2, k3, k4⟩ := hK
      have hcl : c.toNat < bk.length := by omega
      have hbc := List.getElem?_eq_getElem hcl
      generalize bk[c.toNat] = y at hbc
      have k4 := k4 c.toNat (by omega) y hbc
      have ec : ((c.toNat : Nat) : Int) = c := by omega
      rw [ec] at k4
      have e8 : IntKind.i64.wrap (8 * c) = 8 * c := wrap_i64 (by omega) (by omega)
      have e1 : IntKind.i64.wrap (c + 1) = c + 1 := wrap_i64 (by omega) (by omega)
      by_cases g2 : 8 * c < at_
      · rw [if_pos g2] at k4
        obtain ⟨st, hst, hy⟩ := k4
        have k2 := k2 _ _ hst
        refine CallC_intro (First_in c y w5 hI c0 hbc (by omega)) (fun v w6 ⟨hv, f6⟩ => ?_)
        rw [if_neg (by omega)] at hv
        subst hv
        refine Br_df (show ¬ (IntKind.i64.wrap (8 * c) ≥ at_) by rw [e8]; omega) ?_
        refine Br_dt (show IntKind.i64.wrap (8 * c) < at_ by rw [e8]; omega) ?_
        rcases own_cases hO with ⟨_, _, hnil⟩ | ⟨g, cp, cur, hv, hg, hB, ht, hn⟩
        · exfalso
          have := lt_of_get? hst
          have h0 : starts = [] := by cases starts with | nil => rfl | cons _ _ => cases hnil
          rw [h0] at this; exact absurd this (by simp)
        subst hv
        have hlt := lt_of_get? hst
        refine Sd_intro (show 0 ≤ IntKind.i64.wrap (8 * c) ∧ IntKind.i64.wrap (8 * c) < (starts.length : Int) by rw [e8]; omega) ?_
        refine LdC_idx (v := .int .i64 st) (hB.keep f6 id) ?_ ?_
        · show cur[0 + (IntKind.i64.wrap (8 * c)).toNat * 1]? = _
          rw [e8, Nat.mul_one, Nat.zero_add]
          have h1 : (ints starts)[8 * c.toNat]? = some (.int .i64 st) := ints_get? hst
          rw [← ht, List.getElem?_take] at h1
          split at h1
          · rw [show (8 * c).toNat = 8 * c.toNat by omega]; exact h1
          · cases h1
        refine Br_nf (show c * 8 - (y - 1) = st by omega) ?_
        refine ⟨(32 - (c + 1)).toNat, _, by omega, ?_, c + 1, rfl, hI.keep f6 id id, own_keep hO f6 (fun _ _ => id), hF.no f6, by omega, by omega, rfl⟩
        · exact ⟨rfl, rfl, rfl, look_int rfl e1, trivial⟩
      · rw [if_neg g2] at k4
        refine CallC_intro (First_in c y w5 hI c0 hbc (by omega)) (fun v w6 ⟨hv, f6⟩ => ?_)
        rw [if_pos k4] at hv
        subst hv
        refine Br_dt (show IntKind.i64.wrap (8 * c) ≥ at_ by rw [e8]; omega) ?_
        refine Br_df (show ¬ (IntKind.i64.wrap (8 * c) < at_) by rw [e8]; omega) ?_
        refine ⟨(32 - (c + 1)).toNat, _, by omega, ?_, c + 1, rfl, hI.keep f6 id id, own_keep hO f6 (fun _ _ => id), hF.no f6, by omega, by omega, rfl⟩
        · exact ⟨rfl, rfl, rfl, look_int rfl e1, trivial⟩
    · exact ⟨rfl, hF⟩
end Go.Proofs.Ytilhoimokegpjaa
