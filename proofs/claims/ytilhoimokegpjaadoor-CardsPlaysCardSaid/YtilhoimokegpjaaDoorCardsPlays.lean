/- CardsPlays' walk. -/
import Derived.Test.YtilhoimokegpjaaDoorCardTab
import Derived.Test.YtilhoimokegpjaaDoorRef09
import Derived.Test.YtilhoimokegpjaaDoorVcR
namespace Go.Proofs.YtilhoimokegpjaaDoor
open Go.Vc

theorem Fr.ofNo9 {w w' : World} {F : Nat → Prop} (f : Fr No w w') : Fr F w w' := f.weak (fun _ _ e => e.elim)
def inR9 (n i : Int) : Bool := decide (0 ≤ i ∧ i < n)
theorem Dirty_any {t b r : Nat} {n : Int} {S : Nat → Bool} (i : Int) (w : World) (h : IsCards w t b r n S) :
    CallC Pr f_cards_Table_Dirty [.pointer (some ⟨t, 0, none⟩), .int .i64 i] w (fun v w' => v = .tuple #[.bool (inR9 n i && !S i.toNat), .int .i64 (if inR9 n i = true then 0 else 2)] ∧ IsCards w' t b r n (fun j => if inR9 n i = true then upd S i.toNat true j else S j) ∧ Fr (· = r) w w') := by
  by_cases hi : 0 ≤ i ∧ i < n
  · have e : inR9 n i = true := decide_eq_true hi
    refine CallC_intro (Dirty_spec i w h hi.1 hi.2) (fun v w1 ⟨hv, h1, f1⟩ => ⟨?_, ⟨h1.tab, h1.set.of_eq (fun j => ?_)⟩, f1⟩)
    · rw [hv, e]; rfl
    · rw [if_pos e]; unfold bput upd; by_cases hj : j = i.toNat <;> simp [hj]
  · have e : inR9 n i = false := decide_eq_false hi
    refine CallC_intro (Dirty_out i w h hi) (fun v w1 ⟨hv, f1⟩ => ⟨?_, ⟨h.tab.keep f1 id, (h.set.keep f1 id id).of_eq (fun j => ?_)⟩, Fr.ofNo9 f1⟩)
    · rw [hv, e]; rfl
    · rw [if_neg (by rw [e]; decide)]
theorem Clean_any {t b r : Nat} {n : Int} {S : Nat → Bool} (i : Int) (w : World) (h : IsCards w t b r n S) :
    CallC Pr f_cards_Table_Clean [.pointer (some ⟨t, 0, none⟩), .int .i64 i] w (fun v w' => v = .tuple #[.bool (inR9 n i && S i.toNat), .int .i64 (if inR9 n i = true then 0 else 2)] ∧ IsCards w' t b r n (fun j => if inR9 n i = true then upd S i.toNat false j else S j) ∧ Fr (· = r) w w') := by
  by_cases hi : 0 ≤ i ∧ i < n
  · have e : inR9 n i = true := decide_eq_true hi
    refine CallC_intro (Clean_spec i w h hi.1 hi.2) (fun v w1 ⟨hv, h1, f1⟩ => ⟨?_, ⟨h1.tab, h1.set.of_eq (fun j => ?_)⟩, f1⟩)
    · rw [hv, e]; rfl
    · rw [if_pos e]; unfold bdrop upd; by_cases hj : j = i.toNat <;> simp [hj]
  · have e : inR9 n i = false := decide_eq_false hi
    refine CallC_intro (Clean_out i w h hi) (fun v w1 ⟨hv, f1⟩ => ⟨?_, ⟨h.tab.keep f1 id, (h.set.keep f1 id id).of_eq (fun j => ?_)⟩, Fr.ofNo9 f1⟩)
    · rw [hv, e]; rfl
    · rw [if_neg (by rw [e]; decide)]
theorem ref9_Set_any {b r : Nat} {n : Int} {S : Nat → Bool} (i : Int) (on : Bool) (w : World) (h : IsRef9 w b r n.toNat S) :
    CallC Pr f_gleanerref09_Table_Set [.pointer (some ⟨b, 0, none⟩), .int .i64 i, .bool on] w (fun v w' => v = .tuple #[.bool (inR9 n i && !(S i.toNat == on)), .int .i64 (if inR9 n i = true then 0 else 2)] ∧ IsRef9 w' b r n.toNat (fun j => if inR9 n i = true then upd S i.toNat on j else S j) ∧ Fr (· = r) w w') := by
  by_cases hi : 0 ≤ i ∧ i < n
  · have e : inR9 n i = true := decide_eq_true hi
    refine CallC_intro (ref9_set_in i on w h hi.1 (by omega)) (fun v w1 ⟨hv, h1, f1⟩ => ⟨?_, h1.of_eq (fun j _ => ?_), f1⟩)
    · rw [hv, e]; rfl
    · rw [if_pos e]
  · have e : inR9 n i = false := decide_eq_false hi
    refine CallC_intro (ref9_set_out i on w h (by omega)) (fun v w1 ⟨hv, f1⟩ => ⟨?_, (h.keep f1 id id).of_eq (fun j _ => ?_), Fr.ofNo9 f1⟩)
    · rw [hv, e]; rfl
    · rw [if_neg (by rw [e]; decide)]
structure Both9 (w0 w : World) (t b r b' r' : Nat) (n : Int) (S : Nat → Bool) : Prop where
  s : IsCards w t b r n S
  m : IsRef9 w b' r' n.toNat S
  tab : Tab64 w
  fr : Fr No w0 w
def act9 : List (Option IntKind) := [some .i64, some .i64]
theorem act9_row {cs : List Value} (h : LeafRow act9 cs) : ∃ (k a : Int), cs = [.int .i64 k, .int .i64 a] := by
  obtain ⟨v0, r0, rfl, ⟨k, rfl, h0⟩, g0⟩ := h.cons
  obtain ⟨v1, r1, rfl, ⟨a, rfl, h1⟩, g1⟩ := g0.cons
  obtain rfl := g1.nil
  exact ⟨k, a, rfl⟩
theorem bneq_self9 (a : Bool) : (!(a == a)) = false := by cases a <;> rfl
theorem CardsPlays_out (n : Int) (a : Option Addr) (len cap : Nat) (w : World) (hn : n < 0 ∨ 3000 < n) :
    CallC Pr f_gleanerlaw09_CardsPlays [.int .i64 n, .slice a len cap] w (fun v w' => v = .bool true ∧ Fr No w w') := by
  refine call_sound T_ok fun_gleanerlaw09_CardsPlays rfl (by kernel_rfl) rfl (Kp ?_)
  refine CallC_intro (awake09_spec w) (fun v w1 ⟨hv, f⟩ => ?_)
  subst hv
  refine NewC_blk (fun g w2 hg h2 f2 _ => ?_)
  refine StN_blk h2 rfl (Nat.le_refl 6) (fun w3 h3 f3 _ => ?_)
  have h3 : Blk w3 g t_geom_Geom (geoL 0 0 0 0 n 0) := h3
  have f := f.no (f2.new f3 (fun _ _ e => e) (fun k e => by omega))
  refine Br_dec (fun g0 => ?_) (fun g0 => ?_)
  · have g0 : n > 3000 := g0
    refine Br_dec (fun g1 => ?_) (fun g1 => ?_)
    · exact ⟨rfl, f⟩
    · have g1 : ¬ n ≤ 4194304 := g1
      refine LdN_blk (vs := geoL 0 0 0 0 n 0) h3 rfl rfl ?_
      refine CallC_intro (cards_New_bad 0 0 0 0 n 0 w3 (by omega)) (fun v w4 ⟨hv, f4⟩ => ?_)
      subst hv
      refine LdN_blk (vs := geoL 0 0 0 0 n 0) (h3.keep f4 id) rfl rfl ?_
      refine CallC_intro (ref9_New_bad 0 0 0 0 n 0 w4 (by omega)) (fun v w5 ⟨hv, f5⟩ => ?_)
      subst hv
      exact ⟨rfl, (f.no f4).no f5⟩
  · have g0 : ¬ n > 3000 := g0
    refine LdN_blk (vs := geoL 0 0 0 0 n 0) h3 rfl rfl ?_
    refine CallC_intro (cards_New_bad 0 0 0 0 n 0 w3 (by omega)) (fun v w4 ⟨hv, f4⟩ => ?_)
    subst hv
    refine LdN_blk (vs := geoL 0 0 0 0 n 0) (h3.keep f4 id) rfl rfl ?_
    refine CallC_intro (ref9_New_bad 0 0 0 0 n 0 w4 (by omega)) (fun v w5 ⟨hv, f5⟩ => ?_)
    subst hv
    exact ⟨rfl, (f.no f4).no f5⟩
theorem CardsPlays_spec (n : Int) (a : Option Addr) (len cap : Nat) (css : List (List Value)) (w : World) (hT : Tab64 w) (hr : RowsArg w 2 a len css) (hk : ∀ cs ∈ css, LeafRow act9 cs) (hl : len ≤ 9223372036854775807) :
    CallC Pr f_gleanerlaw09_CardsPlays [.int .i64 n, .slice a len cap] w (fun v w' => v = .bool true ∧ Fr No w w') := by
  by_cases hout : n < 0 ∨ 3000 < n
  · exact CardsPlays_out n a len cap w hout
  have hg := hT.lt
  refine call_sound T_ok fun_gleanerlaw09_CardsPlays rfl (by kernel_rfl) rfl (Kp ?_)
  refine CallC_intro (awake09_spec w) (fun v w1 ⟨hv, f1⟩ => ?_)
  subst hv
  refine NewC_blk (fun g w2 hg h2 f2 _ => ?_)
  refine StN_blk h2 rfl (Nat.le_refl 6) (fun w3 h3 f3 _ => ?_)
  have h3 : Blk w3 g t_geom_Geom (geoL 0 0 0 0 n 0) := h3
  have f := f1.no (f2.new f3 (fun _ _ e => e) (fun k e => by omega))
  refine Br_df (show ¬ n > 3000 by omega) ?_
  refine LdN_blk (vs := geoL 0 0 0 0 n 0) h3 rfl rfl ?_
  refine CallC_intro (cards_New_spec 0 0 0 0 n 0 w3 (by omega) (by omega)) (fun v w4 ⟨t, b, r, hv, hB, f4, ht, hb, hr1⟩ => ?_)
  subst hv
  refine LdN_blk (vs := geoL 0 0 0 0 n 0) (h3.keep f4 id) rfl rfl ?_
  refine CallC_intro (ref9_New_spec 0 0 0 0 n 0 w4 (by omega) (by omega)) (fun v w5 ⟨b', r', hv, hM, f5, hb', hr'⟩ => ?_)
  subst hv
  have s1 := f.size
  have s4 := f4.size
  have hne := hB.ne
  have hbr := hB.set.ne
  have hbr' := hM.ne
  have htl := hB.tab.lt
  have hbl := hB.set.blt
  have hrl := hB.set.rlt
  have f15 := (f.no f4).no f5
  refine LoopC_intro (α := Int) (fun i => [(0, .int .i64 n), (1, .slice a len cap), (6, .pointer (some ⟨t, 0, none⟩)), (8, .pointer (some ⟨b', 0, none⟩)), (10, .int .i64 i)])
    (fun m i w6 => (∃ S, Both9 w w6 t b r b' r' n S) ∧ 0 ≤ i ∧ i ≤ len ∧ i ≤ 200 ∧ m = (len - i).toNat)
    (len - 0 : Int).toNat 0 ⟨rfl, rfl, rfl, rfl, rfl, trivial⟩ ⟨⟨_, hB.keep f5 id id id, hM, hT.keep f15 id, f15⟩, Int.le_refl _, (show (0 : Int) ≤ len by omega), (show (0 : Int) ≤ 200 by omega), rfl⟩ (fun m i w6 hJ => Kp ?_)
  obtain ⟨⟨S, hS⟩, i0, i1, i2, hm⟩ := hJ
  have i0 : 0 ≤ i := i0
  have i1 : i ≤ len := i1
  have i2 : i ≤ 200 := i2
  have hm : m = (len - i).toNat := hm
  have ei : IntKind.i64.wrap (i + 1) = i + 1 := wrap_i64 (by omega) (by omega)
  refine Br_dec (fun g => ?_) (fun g => ?_)
  · have g : i < (len : Int) := g
    refine Br_dec (fun g1 => ?_) (fun g1 => ?_)
    · have g1 : i < 200 := g1
      obtain ⟨x, cs, rfl, hcs, hcell⟩ := (hr.keep hS.fr).at (show i.toNat < len by omega)
      obtain ⟨k, A, rfl⟩ := act9_row (hk cs (List.mem_of_getElem? hcs))
      refine Sd_intro (show 0 ≤ i ∧ i < (len : Int) by omega) ?_
      refine LdN_cells hcell rfl ?_
      refine NewC_blk (fun p w7 hp h7 f7 _ => ?_)
      refine StN_blk h7 rfl (Nat.le_refl 2) (fun w8 h8 f8 _ => ?_)
      have h8 : Blk w8 p t_gleanerlaw09_Act [.int .i64 k, .int .i64 A] := h8
      have f68 : Fr No w6 w8 := f7.new f8 (fun _ _ e => e) (fun k e => by omega)
      have hS8 : Both9 w w8 t b r b' r' n S := ⟨hS.s.keep f68 id id id, hS.m.keep f68 id id, hS.tab.keep f68 id, hS.fr.no f68⟩
      have hp4 : p ≠ r ∧ p ≠ r' := ⟨by have := hS.s.set.rlt; omega, by have := hS.m.row.lt; omega⟩
      have tail : ∀ (S' : Nat → Bool) (w9 : World), Both9 w w9 t b r b' r' n S' → Blk w9 p t_gleanerlaw09_Act [.int .i64 k, .int .i64 A] →
          (has S' A = (decide (A ≥ 0) && (decide (A < n) && S' A.toNat))) := by
        intro S' w9 hS' _
        unfold has
        by_cases hA : A ≥ 0
        · by_cases hAn : A < n
          · rw [decide_eq_true hA, decide_eq_true hAn]; rfl
          · rw [decide_eq_false hAn]
            cases hs : S' A.toNat with
            | false => simp
            | true => have := hS'.s.set.hi _ hs; omega
        · rw [decide_eq_false hA]; rfl
      refine LdC_blk h8 rfl ?_
      refine Sd_intro (by omega) ?_
      refine Sd_intro (by omega) ?_
      refine Br_dec (fun g2 => ?_) (fun g2 => ?_)
      · refine LdC_blk h8 rfl ?_
        refine CallC_intro (Dirty_any A w8 hS8.s) (fun v w9 ⟨hv, h9, f9⟩ => ?_)
        subst hv
        have h89 := h8.keep f9 hp4.1
        refine LdC_blk h89 rfl ?_
        refine CallC_intro (ref9_Set_any A true w9 (hS8.m.keep f9 (by omega) (by omega))) (fun v w10 ⟨hv, h10, f10⟩ => ?_)
        rw [show (!(S A.toNat == true)) = !S A.toNat by cases S A.toNat <;> rfl] at hv
        subst hv
        refine Br_f (bneq_self9 _) ?_
        refine Br_nf rfl ?_
        have h8b := h89.keep f10 hp4.2
        have f810 : Fr No w w10 := (hS8.fr.new f9 (fun _ _ e => e) (fun k e => by omega)).new f10 (fun _ _ e => e) (fun k e => by omega)
        have hS10 : Both9 w w10 t b r b' r' n _ := ⟨h9.keep f10 (by omega) (by omega) (by omega), h10, hT.keep f810 id, f810⟩
        have ht := tail _ w10 hS10 h8b
        refine AnyC_ord [0,1,2,4,5,6,1003,7,8,9,10,11,12,13,14,15,16,17,18,19,20,21,22,23] T_ok mixed (by kernel_rfl) (by kernel_rfl) (Kp ?_)
        refine LdS_blk h8b rfl ?_
        refine LdS_blk h8b rfl ?_
        refine ⟨?_, trivial⟩
        refine CallC_intro (Is_spec A w10.drew (hS10.s.keep (Fr.drew w10) id id id)) (fun v w11 ⟨hv, f11⟩ => ?_)
        subst hv
        have f11 := (Fr.drew w10).no f11
        refine Sd_intro f11.old ?_
        refine Br_dec (fun q0 => ?_) (fun q0 => ?_)
        · have q0 : A ≥ 0 := q0
          rw [decide_eq_true q0, Bool.true_and] at ht
          refine LdS_blk h8b rfl ?_
          refine Br_dec (fun q1 => ?_) (fun q1 => ?_)
          · have q1 : A < n := q1
            rw [decide_eq_true q1, Bool.true_and] at ht
            refine LdS_blk hS10.m.tab rfl ?_
            refine LdS_blk h8b rfl ?_
            refine Sd_intro (show 0 ≤ A ∧ A < ((n.toNat : Nat) : Int) by omega) ?_
            refine LdS_idx hS10.m.row (by rw [Nat.zero_add, Nat.mul_one]; exact bools_get (by omega)) ?_
            refine Br_f (by rw [ht]; exact bneq_self9 _) ?_
            refine ⟨(len - (i + 1)).toNat, _, by omega, ?_, i + 1, rfl, ⟨_, hS10.s.keep f11 id id id, hS10.m.keep f11 id id, hS10.tab.keep f11 id, hS10.fr.no f11⟩, (show 0 ≤ i + 1 by omega), (show i + 1 ≤ (len : Int) by omega), (show i + 1 ≤ 200 by omega), rfl⟩
            exact ⟨rfl, rfl, rfl, rfl, look_int rfl ei, trivial⟩
          · have q1 : ¬ A < n := q1
            rw [decide_eq_false q1, Bool.false_and] at ht
            refine Br_f (by rw [ht]; rfl) ?_
            refine ⟨(len - (i + 1)).toNat, _, by omega, ?_, i + 1, rfl, ⟨_, hS10.s.keep f11 id id id, hS10.m.keep f11 id id, hS10.tab.keep f11 id, hS10.fr.no f11⟩, (show 0 ≤ i + 1 by omega), (show i + 1 ≤ (len : Int) by omega), (show i + 1 ≤ 200 by omega), rfl⟩
            exact ⟨rfl, rfl, rfl, rfl, look_int rfl ei, trivial⟩
        · have q0 : ¬ A ≥ 0 := q0
          rw [decide_eq_false q0, Bool.false_and] at ht
          refine Br_f (by rw [ht]; rfl) ?_
          refine ⟨(len - (i + 1)).toNat, _, by omega, ?_, i + 1, rfl, ⟨_, hS10.s.keep f11 id id id, hS10.m.keep f11 id id, hS10.tab.keep f11 id, hS10.fr.no f11⟩, (show 0 ≤ i + 1 by omega), (show i + 1 ≤ (len : Int) by omega), (show i + 1 ≤ 200 by omega), rfl⟩
          exact ⟨rfl, rfl, rfl, rfl, look_int rfl ei, trivial⟩
      · refine Br_dec (fun g3 => ?_) (fun g3 => ?_)
        · refine LdC_blk h8 rfl ?_
          refine CallC_intro (Clean_any A w8 hS8.s) (fun v w9 ⟨hv, h9, f9⟩ => ?_)
          subst hv
          have h89 := h8.keep f9 hp4.1
          refine LdC_blk h89 rfl ?_
          refine CallC_intro (ref9_Set_any A false w9 (hS8.m.keep f9 (by omega) (by omega))) (fun v w10 ⟨hv, h10, f10⟩ => ?_)
          rw [show (!(S A.toNat == false)) = S A.toNat by cases S A.toNat <;> rfl] at hv
          subst hv
          refine Br_f (bneq_self9 _) ?_
          refine Br_nf rfl ?_
          have h8b := h89.keep f10 hp4.2
          have f810 : Fr No w w10 := (hS8.fr.new f9 (fun _ _ e => e) (fun k e => by omega)).new f10 (fun _ _ e => e) (fun k e => by omega)
          have hS10 : Both9 w w10 t b r b' r' n _ := ⟨h9.keep f10 (by omega) (by omega) (by omega), h10, hT.keep f810 id, f810⟩
          have ht := tail _ w10 hS10 h8b
          refine AnyC_ord [0,1,2,4,5,6,1003,7,8,9,10,11,12,13,14,15,16,17,18,19,20,21,22,23] T_ok mixed (by kernel_rfl) (by kernel_rfl) (Kp ?_)
          refine LdS_blk h8b rfl ?_
          refine LdS_blk h8b rfl ?_
          refine ⟨?_, trivial⟩
          refine CallC_intro (Is_spec A w10.drew (hS10.s.keep (Fr.drew w10) id id id)) (fun v w11 ⟨hv, f11⟩ => ?_)
          subst hv
          have f11 := (Fr.drew w10).no f11
          refine Sd_intro f11.old ?_
          refine Br_dec (fun q0 => ?_) (fun q0 => ?_)
          · have q0 : A ≥ 0 := q0
            rw [decide_eq_true q0, Bool.true_and] at ht
            refine LdS_blk h8b rfl ?_
            refine Br_dec (fun q1 => ?_) (fun q1 => ?_)
            · have q1 : A < n := q1
              rw [decide_eq_true q1, Bool.true_and] at ht
              refine LdS_blk hS10.m.tab rfl ?_
              refine LdS_blk h8b rfl ?_
              refine Sd_intro (show 0 ≤ A ∧ A < ((n.toNat : Nat) : Int) by omega) ?_
              refine LdS_idx hS10.m.row (by rw [Nat.zero_add, Nat.mul_one]; exact bools_get (by omega)) ?_
              refine Br_f (by rw [ht]; exact bneq_self9 _) ?_
              refine ⟨(len - (i + 1)).toNat, _, by omega, ?_, i + 1, rfl, ⟨_, hS10.s.keep f11 id id id, hS10.m.keep f11 id id, hS10.tab.keep f11 id, hS10.fr.no f11⟩, (show 0 ≤ i + 1 by omega), (show i + 1 ≤ (len : Int) by omega), (show i + 1 ≤ 200 by omega), rfl⟩
              exact ⟨rfl, rfl, rfl, rfl, look_int rfl ei, trivial⟩
            · have q1 : ¬ A < n := q1
              rw [decide_eq_false q1, Bool.false_and] at ht
              refine Br_f (by rw [ht]; rfl) ?_
              refine ⟨(len - (i + 1)).toNat, _, by omega, ?_, i + 1, rfl, ⟨_, hS10.s.keep f11 id id id, hS10.m.keep f11 id id, hS10.tab.keep f11 id, hS10.fr.no f11⟩, (show 0 ≤ i + 1 by omega), (show i + 1 ≤ (len : Int) by omega), (show i + 1 ≤ 200 by omega), rfl⟩
              exact ⟨rfl, rfl, rfl, rfl, look_int rfl ei, trivial⟩
          · have q0 : ¬ A ≥ 0 := q0
            rw [decide_eq_false q0, Bool.false_and] at ht
            refine Br_f (by rw [ht]; rfl) ?_
            refine ⟨(len - (i + 1)).toNat, _, by omega, ?_, i + 1, rfl, ⟨_, hS10.s.keep f11 id id id, hS10.m.keep f11 id id, hS10.tab.keep f11 id, hS10.fr.no f11⟩, (show 0 ≤ i + 1 by omega), (show i + 1 ≤ (len : Int) by omega), (show i + 1 ≤ 200 by omega), rfl⟩
            exact ⟨rfl, rfl, rfl, rfl, look_int rfl ei, trivial⟩
        · have h8b := h8
          have hS10 := hS8
          have ht := tail _ w8 hS10 h8b
          refine AnyC_ord [0,1,2,4,5,6,1003,7,8,9,10,11,12,13,14,15,16,17,18,19,20,21,22,23] T_ok mixed (by kernel_rfl) (by kernel_rfl) (Kp ?_)
          refine LdS_blk h8b rfl ?_
          refine LdS_blk h8b rfl ?_
          refine ⟨?_, trivial⟩
          refine CallC_intro (Is_spec A w8.drew (hS10.s.keep (Fr.drew w8) id id id)) (fun v w11 ⟨hv, f11⟩ => ?_)
          subst hv
          have f11 := (Fr.drew w8).no f11
          refine Sd_intro f11.old ?_
          refine Br_dec (fun q0 => ?_) (fun q0 => ?_)
          · have q0 : A ≥ 0 := q0
            rw [decide_eq_true q0, Bool.true_and] at ht
            refine LdS_blk h8b rfl ?_
            refine Br_dec (fun q1 => ?_) (fun q1 => ?_)
            · have q1 : A < n := q1
              rw [decide_eq_true q1, Bool.true_and] at ht
              refine LdS_blk hS10.m.tab rfl ?_
              refine LdS_blk h8b rfl ?_
              refine Sd_intro (show 0 ≤ A ∧ A < ((n.toNat : Nat) : Int) by omega) ?_
              refine LdS_idx hS10.m.row (by rw [Nat.zero_add, Nat.mul_one]; exact bools_get (by omega)) ?_
              refine Br_f (by rw [ht]; exact bneq_self9 _) ?_
              refine ⟨(len - (i + 1)).toNat, _, by omega, ?_, i + 1, rfl, ⟨_, hS10.s.keep f11 id id id, hS10.m.keep f11 id id, hS10.tab.keep f11 id, hS10.fr.no f11⟩, (show 0 ≤ i + 1 by omega), (show i + 1 ≤ (len : Int) by omega), (show i + 1 ≤ 200 by omega), rfl⟩
              exact ⟨rfl, rfl, rfl, rfl, look_int rfl ei, trivial⟩
            · have q1 : ¬ A < n := q1
              rw [decide_eq_false q1, Bool.false_and] at ht
              refine Br_f (by rw [ht]; rfl) ?_
              refine ⟨(len - (i + 1)).toNat, _, by omega, ?_, i + 1, rfl, ⟨_, hS10.s.keep f11 id id id, hS10.m.keep f11 id id, hS10.tab.keep f11 id, hS10.fr.no f11⟩, (show 0 ≤ i + 1 by omega), (show i + 1 ≤ (len : Int) by omega), (show i + 1 ≤ 200 by omega), rfl⟩
              exact ⟨rfl, rfl, rfl, rfl, look_int rfl ei, trivial⟩
          · have q0 : ¬ A ≥ 0 := q0
            rw [decide_eq_false q0, Bool.false_and] at ht
            refine Br_f (by rw [ht]; rfl) ?_
            refine ⟨(len - (i + 1)).toNat, _, by omega, ?_, i + 1, rfl, ⟨_, hS10.s.keep f11 id id id, hS10.m.keep f11 id id, hS10.tab.keep f11 id, hS10.fr.no f11⟩, (show 0 ≤ i + 1 by omega), (show i + 1 ≤ (len : Int) by omega), (show i + 1 ≤ 200 by omega), rfl⟩
            exact ⟨rfl, rfl, rfl, rfl, look_int rfl ei, trivial⟩
    · refine CallC_intro (cards_List_spec w6 hS.s hS.tab) (fun v7 w7 ⟨o7, f7⟩ => ?_)
      refine CallC_intro (ref9_List_spec w7 (hS.m.keep f7 id id)) (fun v8 w8 ⟨o8, f8⟩ => ?_)
      have hle := elems_le S n.toNat
      refine CallC_intro (Same_spec v7 v8 _ _ w8 (o7.keep f8 (fun _ _ => id)).ints o8.ints (by omega)) (fun v w9 ⟨hv, f9⟩ => ?_)
      rw [decide_eq_true rfl] at hv
      subst hv
      exact ⟨rfl, ((hS.fr.no f7).no f8).no f9⟩
  · refine CallC_intro (cards_List_spec w6 hS.s hS.tab) (fun v7 w7 ⟨o7, f7⟩ => ?_)
    refine CallC_intro (ref9_List_spec w7 (hS.m.keep f7 id id)) (fun v8 w8 ⟨o8, f8⟩ => ?_)
    have hle := elems_le S n.toNat
    refine CallC_intro (Same_spec v7 v8 _ _ w8 (o7.keep f8 (fun _ _ => id)).ints o8.ints (by omega)) (fun v w9 ⟨hv, f9⟩ => ?_)
    rw [decide_eq_true rfl] at hv
    subst hv
    exact ⟨rfl, ((hS.fr.no f7).no f8).no f9⟩
end Go.Proofs.YtilhoimokegpjaaDoor
