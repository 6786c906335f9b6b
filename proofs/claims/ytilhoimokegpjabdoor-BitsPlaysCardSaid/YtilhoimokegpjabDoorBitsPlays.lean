/- BitsPlays' walk. -/
import Derived.Test.YtilhoimokegpjabDoorBits01
import Derived.Test.YtilhoimokegpjabDoorRef01
import Derived.Test.YtilhoimokegpjabDoorVcR
namespace Go.Proofs.YtilhoimokegpjabDoor
open Go.Vc

theorem Fr.ofNo {w w' : World} {F : Nat → Prop} (f : Fr No w w') : Fr F w w' := f.weak (fun _ _ e => e.elim)
def inR (n i : Int) : Bool := decide (0 ≤ i ∧ i < n)
theorem Put_any {b r : Nat} {n : Int} {S : Nat → Bool} (i : Int) (w : World) (h : IsBits w b r n S) :
    CallC Pr f_bits_Set_Put [.pointer (some ⟨b, 0, none⟩), .int .i64 i] w (fun v w' => v = .tuple #[.bool (inR n i && !S i.toNat), .int .i64 (if inR n i = true then 0 else 2)] ∧ IsBits w' b r n (fun j => if inR n i = true then upd S i.toNat true j else S j) ∧ Fr (· = r) w w') := by
  by_cases hi : 0 ≤ i ∧ i < n
  · have e : inR n i = true := decide_eq_true hi
    refine CallC_intro (Put_spec i w h hi.1 hi.2) (fun v w1 ⟨hv, h1, f1⟩ => ⟨?_, h1.of_eq (fun j => ?_), f1⟩)
    · rw [hv, e]; rfl
    · rw [if_pos e]; unfold bput upd; by_cases hj : j = i.toNat <;> simp [hj]
  · have e : inR n i = false := decide_eq_false hi
    refine CallC_intro (Put_out i w h hi) (fun v w1 ⟨hv, f1⟩ => ⟨?_, (h.keep f1 id id).of_eq (fun j => ?_), Fr.ofNo f1⟩)
    · rw [hv, e]; rfl
    · rw [if_neg (by rw [e]; decide)]
theorem ref_Put_any {b r : Nat} {n : Int} {S : Nat → Bool} (i : Int) (w : World) (h : IsRef w b r n.toNat S) :
    CallC Pr f_gleanerref01_Set_Put [.pointer (some ⟨b, 0, none⟩), .int .i64 i] w (fun v w' => v = .tuple #[.bool (inR n i && !S i.toNat), .int .i64 (if inR n i = true then 0 else 2)] ∧ IsRef w' b r n.toNat (fun j => if inR n i = true then upd S i.toNat true j else S j) ∧ Fr (· = r) w w') := by
  by_cases hi : 0 ≤ i ∧ i < n
  · have e : inR n i = true := decide_eq_true hi
    refine CallC_intro (ref_Put_in i w h hi.1 (by omega)) (fun v w1 ⟨hv, h1, f1⟩ => ⟨?_, h1.of_eq (fun j _ => ?_), f1⟩)
    · rw [hv, e]; rfl
    · rw [if_pos e]
  · have e : inR n i = false := decide_eq_false hi
    refine CallC_intro (ref_Put_out i w h (by omega)) (fun v w1 ⟨hv, f1⟩ => ⟨?_, (h.keep f1 id id).of_eq (fun j _ => ?_), Fr.ofNo f1⟩)
    · rw [hv, e]; rfl
    · rw [if_neg (by rw [e]; decide)]
theorem Drop_any {b r : Nat} {n : Int} {S : Nat → Bool} (i : Int) (w : World) (h : IsBits w b r n S) :
    CallC Pr f_bits_Set_Drop [.pointer (some ⟨b, 0, none⟩), .int .i64 i] w (fun v w' => v = .tuple #[.bool (inR n i && S i.toNat), .int .i64 (if inR n i = true then 0 else 2)] ∧ IsBits w' b r n (fun j => if inR n i = true then upd S i.toNat false j else S j) ∧ Fr (· = r) w w') := by
  by_cases hi : 0 ≤ i ∧ i < n
  · have e : inR n i = true := decide_eq_true hi
    refine CallC_intro (Drop_spec i w h hi.1 hi.2) (fun v w1 ⟨hv, h1, f1⟩ => ⟨?_, h1.of_eq (fun j => ?_), f1⟩)
    · rw [hv, e]; rfl
    · rw [if_pos e]; unfold bdrop upd; by_cases hj : j = i.toNat <;> simp [hj]
  · have e : inR n i = false := decide_eq_false hi
    refine CallC_intro (Drop_out i w h hi) (fun v w1 ⟨hv, f1⟩ => ⟨?_, (h.keep f1 id id).of_eq (fun j => ?_), Fr.ofNo f1⟩)
    · rw [hv, e]; rfl
    · rw [if_neg (by rw [e]; decide)]
theorem ref_Drop_any {b r : Nat} {n : Int} {S : Nat → Bool} (i : Int) (w : World) (h : IsRef w b r n.toNat S) :
    CallC Pr f_gleanerref01_Set_Drop [.pointer (some ⟨b, 0, none⟩), .int .i64 i] w (fun v w' => v = .tuple #[.bool (inR n i && S i.toNat), .int .i64 (if inR n i = true then 0 else 2)] ∧ IsRef w' b r n.toNat (fun j => if inR n i = true then upd S i.toNat false j else S j) ∧ Fr (· = r) w w') := by
  by_cases hi : 0 ≤ i ∧ i < n
  · have e : inR n i = true := decide_eq_true hi
    refine CallC_intro (ref_Drop_in i w h hi.1 (by omega)) (fun v w1 ⟨hv, h1, f1⟩ => ⟨?_, h1.of_eq (fun j _ => ?_), f1⟩)
    · rw [hv, e]; rfl
    · rw [if_pos e]
  · have e : inR n i = false := decide_eq_false hi
    refine CallC_intro (ref_Drop_out i w h (by omega)) (fun v w1 ⟨hv, f1⟩ => ⟨?_, (h.keep f1 id id).of_eq (fun j _ => ?_), Fr.ofNo f1⟩)
    · rw [hv, e]; rfl
    · rw [if_neg (by rw [e]; decide)]
def fillR (n a b : Int) : Bool := decide (0 ≤ a ∧ a ≤ b ∧ b ≤ n)
theorem Fill_any {b r : Nat} {n : Int} {S : Nat → Bool} (x y : Int) (on : Bool) (w : World) (h : IsBits w b r n S) :
    CallC Pr f_bits_Set_Fill [.pointer (some ⟨b, 0, none⟩), .int .i64 x, .int .i64 y, .bool on] w (fun v w' => v = .int .i64 (if fillR n x y = true then 0 else 2) ∧ IsBits w' b r n (fun j => if fillR n x y = true then bfill S x y on j else S j) ∧ Fr (· = r) w w') := by
  by_cases hi : 0 ≤ x ∧ x ≤ y ∧ y ≤ n
  · have e : fillR n x y = true := decide_eq_true hi
    refine CallC_intro (Fill_spec x y on w h hi.1 hi.2.1 hi.2.2) (fun v w1 ⟨hv, h1, f1⟩ => ⟨?_, h1.of_eq (fun j => ?_), f1⟩)
    · rw [hv, e]; rfl
    · rw [if_pos e]
  · have e : fillR n x y = false := decide_eq_false hi
    refine CallC_intro (Fill_out x y on w h (by omega)) (fun v w1 ⟨hv, f1⟩ => ⟨?_, (h.keep f1 id id).of_eq (fun j => ?_), Fr.ofNo f1⟩)
    · rw [hv, e]; rfl
    · rw [if_neg (by rw [e]; decide)]
theorem ref_Fill_any {b r : Nat} {n : Int} {S : Nat → Bool} (x y : Int) (on : Bool) (w : World) (h : IsRef w b r n.toNat S) (hn : 0 ≤ n) :
    CallC Pr f_gleanerref01_Set_Fill [.pointer (some ⟨b, 0, none⟩), .int .i64 x, .int .i64 y, .bool on] w (fun v w' => v = .int .i64 (if fillR n x y = true then 0 else 2) ∧ IsRef w' b r n.toNat (fun j => if fillR n x y = true then bfill S x y on j else S j) ∧ Fr (· = r) w w') := by
  by_cases hi : 0 ≤ x ∧ x ≤ y ∧ y ≤ n
  · have e : fillR n x y = true := decide_eq_true hi
    refine CallC_intro (ref_Fill_spec x y on w h hi.1 hi.2.1 (by omega)) (fun v w1 ⟨hv, h1, f1⟩ => ⟨?_, h1.of_eq (fun j _ => ?_), f1⟩)
    · rw [hv, e]; rfl
    · rw [if_pos e]
  · have e : fillR n x y = false := decide_eq_false hi
    refine CallC_intro (ref_Fill_out x y on w h (by omega)) (fun v w1 ⟨hv, f1⟩ => ⟨?_, (h.keep f1 id id).of_eq (fun j _ => ?_), Fr.ofNo f1⟩)
    · rw [hv, e]; rfl
    · rw [if_neg (by rw [e]; decide)]
/-- Both sets, and what is around. -/
structure Both (w0 w : World) (b r b' r' : Nat) (n : Int) (S : Nat → Bool) : Prop where
  s : IsBits w b r n S
  m : IsRef w b' r' n.toNat S
  tab : Tab64 w
  fr : Fr No w0 w
theorem LdN_row {P : Prop} {w : World} {ad : Addr} {cs : List Value} {n : Nat} {K : List Value → Prop} (h : ∀ (j : Nat) (v : Value), cs[j]? = some v → w.cell? (ad.add j) = some v) (hn : cs.length = n) (k : P → K cs) (p : P) : LdN w ad 0 n K := LdN_cells h hn (k p)
def actKinds : List (Option IntKind) := [some .i64, some .i64, some .i64, none]
theorem act_row {cs : List Value} (h : LeafRow actKinds cs) : ∃ (k a b : Int) (on : Bool), cs = [.int .i64 k, .int .i64 a, .int .i64 b, .bool on] ∧ (-9223372036854775808 ≤ k ∧ k ≤ 9223372036854775807) ∧ (-9223372036854775808 ≤ a ∧ a ≤ 9223372036854775807) ∧ (-9223372036854775808 ≤ b ∧ b ≤ 9223372036854775807) := by
  have wf : ∀ z : Int, (Lit.int .i64 z).wf = true → -9223372036854775808 ≤ z ∧ z ≤ 9223372036854775807 := fun z h => by
    simp [Lit.wf, IntKind.min, IntKind.max, IntKind.signed, IntKind.bits] at h; omega
  obtain ⟨v0, r0, rfl, ⟨k, rfl, h0⟩, g0⟩ := h.cons
  obtain ⟨v1, r1, rfl, ⟨a, rfl, h1⟩, g1⟩ := g0.cons
  obtain ⟨v2, r2, rfl, ⟨b, rfl, h2⟩, g2⟩ := g1.cons
  obtain ⟨v3, r3, rfl, ⟨on, rfl⟩, g3⟩ := g2.cons
  obtain rfl := g3.nil
  exact ⟨k, a, b, on, rfl, wf k h0, wf a h1, wf b h2⟩
theorem rem4 (k : Int) : 0 ≤ (IntKind.i64.wrap (k.tmod 4 + 4)).tmod 4 ∧ (IntKind.i64.wrap (k.tmod 4 + 4)).tmod 4 ≤ 3 := by
  have h1 : -4 < k.tmod 4 ∧ k.tmod 4 < 4 := ⟨by have := Int.lt_tmod_of_pos k (show (0 : Int) < 4 by omega); omega, Int.tmod_lt_of_pos k (by omega)⟩
  rw [wrap_i64 (by omega) (by omega), tmod_eq (by omega)]; omega
theorem bneq_self (a : Bool) : (!(a == a)) = false := by cases a <;> rfl
theorem BitsPlays_big (n : Int) (a : Option Addr) (len cap : Nat) (w : World) (hT : Tab64 w) (hn : 5000 < n) :
    CallC Pr f_gleanerlaw01_BitsPlays [.int .i64 n, .slice a len cap] w (fun v w' => v = .bool true ∧ Fr No w w') := by
  refine call_sound T_ok fun_gleanerlaw01_BitsPlays rfl (by kernel_rfl) rfl (Kp ?_)
  refine CallC_intro (awake01_spec w hT) (fun v w1 ⟨hv, f⟩ => ?_)
  subst hv
  refine Br_dt (show n > 5000 by omega) ?_
  by_cases hb : n ≤ 4194304
  · refine CallC_intro (bits_New_spec n w1 (by omega) hb) (fun v w2 ⟨b, r, hv, _, f2, _⟩ => ?_)
    subst hv
    refine Br_t (show (decide (n > 4194304) == false) = true by rw [decide_eq_false (by omega)]; rfl) ?_
    exact ⟨rfl, f.no f2⟩
  · refine CallC_intro (bits_New_bad n w1 (by omega)) (fun v w2 ⟨hv, f2⟩ => ?_)
    subst hv
    refine Br_t (show (decide (n > 4194304) == true) = true by rw [decide_eq_true (by omega)]; rfl) ?_
    exact ⟨rfl, f.no f2⟩
theorem BitsPlays_bad (n : Int) (a : Option Addr) (len cap : Nat) (w : World) (hT : Tab64 w) (hn : n < 0) :
    CallC Pr f_gleanerlaw01_BitsPlays [.int .i64 n, .slice a len cap] w (fun v w' => v = .bool true ∧ Fr No w w') := by
  refine call_sound T_ok fun_gleanerlaw01_BitsPlays rfl (by kernel_rfl) rfl (Kp ?_)
  refine CallC_intro (awake01_spec w hT) (fun v w1 ⟨hv, f⟩ => ?_)
  subst hv
  refine Br_df (show ¬ n > 5000 by omega) ?_
  refine CallC_intro (bits_New_bad n w1 (by omega)) (fun v w2 ⟨hv, f2⟩ => ?_)
  subst hv
  refine CallC_intro (ref_New_bad n w2 (by omega)) (fun v w3 ⟨hv, f3⟩ => ?_)
  subst hv
  exact ⟨rfl, (f.no f2).no f3⟩
theorem BitsPlays_spec (n : Int) (a : Option Addr) (len cap : Nat) (css : List (List Value)) (w : World) (hT : Tab64 w) (hr : RowsArg w 4 a len css) (hk : ∀ cs ∈ css, LeafRow actKinds cs) (hl : len ≤ 9223372036854775807) :
    CallC Pr f_gleanerlaw01_BitsPlays [.int .i64 n, .slice a len cap] w (fun v w' => v = .bool true ∧ Fr No w w') := by
  by_cases hbig : 5000 < n
  · exact BitsPlays_big n a len cap w hT hbig
  by_cases hbad : n < 0
  · exact BitsPlays_bad n a len cap w hT hbad
  have hg := hT.lt
  refine call_sound T_ok fun_gleanerlaw01_BitsPlays rfl (by kernel_rfl) rfl (Kp ?_)
  refine CallC_intro (awake01_spec w hT) (fun v w1 ⟨hv, f1⟩ => ?_)
  subst hv
  refine Br_df (show ¬ n > 5000 by omega) ?_
  refine CallC_intro (bits_New_spec n w1 (by omega) (by omega)) (fun v w2 ⟨b, r, hv, hB, f2, hb, hr1⟩ => ?_)
  subst hv
  refine CallC_intro (ref_New_spec n w2 (by omega) (by omega)) (fun v w3 ⟨b', r', hv, hM, f3, hb', hr'⟩ => ?_)
  subst hv
  have s1 := f1.size
  have s2 := f2.size
  have hbr := hB.ne
  have hbr' := hM.ne
  have hbl := hB.blt
  have hrl := hB.rlt
  have f13 := (f1.no f2).no f3
  refine LoopC_intro (α := Int) (fun i => [(1, .slice a len cap), (7, .pointer (some ⟨b, 0, none⟩)), (9, .pointer (some ⟨b', 0, none⟩)), (11, .int .i64 i)])
    (fun m i w4 => (∃ S, Both w w4 b r b' r' n S) ∧ 0 ≤ i ∧ i ≤ len ∧ i ≤ 200 ∧ m = (len - i).toNat)
    (len - 0 : Int).toNat 0 ⟨rfl, rfl, rfl, rfl, trivial⟩ ⟨⟨_, hB.keep f3 id id, hM, hT.keep f13 id, f13⟩, Int.le_refl _, (show (0 : Int) ≤ len by omega), (show (0 : Int) ≤ 200 by omega), rfl⟩ (fun m i w4 hJ => Kp ?_)
  obtain ⟨⟨S, hS⟩, i0, i1, i2, hm⟩ := hJ
  have i0 : 0 ≤ i := i0
  have i1 : i ≤ len := i1
  have i2 : i ≤ 200 := i2
  have hm : m = (len - i).toNat := hm
  have ei : IntKind.i64.wrap (i + 1) = i + 1 := wrap_i64 (by omega) (by omega)
  have hpos : ∀ p, S p = true → p < n.toNat := fun p hp => by have := hS.s.hi p hp; omega
  refine Br_dec (fun g => ?_) (fun g => ?_)
  · have g : i < (len : Int) := g
    refine Br_dec (fun g1 => ?_) (fun g1 => ?_)
    · have g1 : i < 200 := g1
      obtain ⟨x, cs, rfl, hcs, hcell⟩ := (hr.keep hS.fr).at (show i.toNat < len by omega)
      obtain ⟨k, A, B, on, rfl, bk, bA, bB⟩ := act_row (hk cs (List.mem_of_getElem? hcs))
      refine Sd_intro (show 0 ≤ i ∧ i < (len : Int) by omega) ?_
      refine LdN_cells hcell rfl ?_
      refine NewC_blk (fun p w5 hp h5 f5 _ => ?_)
      refine StN_blk h5 rfl (Nat.le_refl 4) (fun w6 h6 f6 _ => ?_)
      have h6 : Blk w6 p t_gleanerlaw01_Act [.int .i64 k, .int .i64 A, .int .i64 B, .bool on] := h6
      have f46 : Fr No w4 w6 := f5.new f6 (fun _ _ e => e) (fun k e => by omega)
      have hS6 : Both w w6 b r b' r' n S := ⟨hS.s.keep f46 id id, hS.m.keep f46 id id, hS.tab.keep f46 id, hS.fr.no f46⟩
      have hp4 : p ≠ r ∧ p ≠ r' := ⟨by have := hS.s.rlt; omega, by have := hS.m.row.lt; omega⟩
      refine LdC_blk h6 rfl ?_
      refine Sd_intro (by omega) ?_
      refine Sd_intro (by omega) ?_
      obtain ⟨rk0, rk1⟩ := rem4 k
      refine Br_dec (fun g2 => ?_) (fun g2 => ?_)
      · refine LdC_blk h6 rfl ?_
        refine CallC_intro (Put_any A w6 hS6.s) (fun v w7 ⟨hv, h7, f7⟩ => ?_)
        subst hv
        have h67 := h6.keep f7 hp4.1
        refine LdC_blk h67 rfl ?_
        refine CallC_intro (ref_Put_any A w7 (hS6.m.keep f7 (by omega) (by omega))) (fun v w8 ⟨hv, h8, f8⟩ => ?_)
        subst hv
        refine Br_f (bneq_self _) ?_
        refine Br_nf rfl ?_
        have f68 : Fr No w w8 := (hS6.fr.new f7 (fun _ _ e => e) (fun k e => by omega)).new f8 (fun _ _ e => e) (fun k e => by omega)
        refine ⟨(len - (i + 1)).toNat, _, by omega, ?_, i + 1, rfl, ⟨_, h7.keep f8 (by omega) (by omega), h8, hT.keep f68 id, f68⟩, (show 0 ≤ i + 1 by omega), (show i + 1 ≤ (len : Int) by omega), (show i + 1 ≤ 200 by omega), rfl⟩
        exact ⟨rfl, rfl, rfl, look_int rfl ei, trivial⟩
      · refine Br_dec (fun g3 => ?_) (fun g3 => ?_)
        · refine LdC_blk h6 rfl ?_
          refine CallC_intro (Drop_any A w6 hS6.s) (fun v w7 ⟨hv, h7, f7⟩ => ?_)
          subst hv
          have h67 := h6.keep f7 hp4.1
          refine LdC_blk h67 rfl ?_
          refine CallC_intro (ref_Drop_any A w7 (hS6.m.keep f7 (by omega) (by omega))) (fun v w8 ⟨hv, h8, f8⟩ => ?_)
          subst hv
          refine Br_f (bneq_self _) ?_
          refine Br_nf rfl ?_
          have f68 : Fr No w w8 := (hS6.fr.new f7 (fun _ _ e => e) (fun k e => by omega)).new f8 (fun _ _ e => e) (fun k e => by omega)
          refine ⟨(len - (i + 1)).toNat, _, by omega, ?_, i + 1, rfl, ⟨_, h7.keep f8 (by omega) (by omega), h8, hT.keep f68 id, f68⟩, (show 0 ≤ i + 1 by omega), (show i + 1 ≤ (len : Int) by omega), (show i + 1 ≤ 200 by omega), rfl⟩
          exact ⟨rfl, rfl, rfl, look_int rfl ei, trivial⟩
        · refine Br_dec (fun g4 => ?_) (fun g4 => ?_)
          · refine AnyC_plan T_ok mixed (planL [0,1,2,3,4,5,6,8,9,10,11,12,13,14,1007,1015,16]) (fun w' => Blk w' p t_gleanerlaw01_Act [.int .i64 k, .int .i64 A, .int .i64 B, .bool on]) (by kernel_rfl) (by kernel_rfl) (h6.keep (Fr.drew w6) id) (Kp ?_)
            refine LdS_intro (fun w' hw => Blk.cell hw (o := 1) rfl) ?_
            refine LdS_intro (fun w' hw => Blk.cell hw (o := 2) rfl) ?_
            refine LdS_intro (fun w' hw => Blk.cell hw (o := 3) rfl) ?_
            refine LdS_intro (fun w' hw => Blk.cell hw (o := 1) rfl) ?_
            refine LdS_intro (fun w' hw => Blk.cell hw (o := 2) rfl) ?_
            refine LdS_intro (fun w' hw => Blk.cell hw (o := 3) rfl) ?_
            refine ⟨?_, trivial⟩
            refine CallC_intro (Fill_any A B on w6.drew (hS6.s.keep (Fr.drew w6) id id)) (fun v w7 ⟨hv, h7, f7⟩ => ?_)
            subst hv
            have f7 := f7.drewL
            have h67 := h6.keep f7 hp4.1
            refine Sd_intro h67 ?_
            refine ⟨?_, trivial⟩
            refine CallC_intro (ref_Fill_any A B on w7 (hS6.m.keep f7 (by omega) (by omega)) (by omega)) (fun v w8 ⟨hv, h8, f8⟩ => ?_)
            subst hv
            refine Sd_intro (h67.keep f8 hp4.2) ?_
            refine Br_nf rfl ?_
            have f68 : Fr No w w8 := (hS6.fr.new f7 (fun _ _ e => e) (fun k e => by omega)).new f8 (fun _ _ e => e) (fun k e => by omega)
            refine ⟨(len - (i + 1)).toNat, _, by omega, ?_, i + 1, rfl, ⟨_, h7.keep f8 (by omega) (by omega), h8, hT.keep f68 id, f68⟩, (show 0 ≤ i + 1 by omega), (show i + 1 ≤ (len : Int) by omega), (show i + 1 ≤ 200 by omega), rfl⟩
            exact ⟨rfl, rfl, rfl, look_int rfl ei, trivial⟩
          · refine AnyC_ord [0,1,2,4,5,6,1003,1007,8,9,10,11,12,14,15,16,1013,1017,18,19,20,21,22,23,24,25,27,28,29,30,31,1026,1032,33,34] T_ok mixed (by kernel_rfl) (by kernel_rfl) (Kp ?_)
            refine LdS_blk h6 rfl ?_
            refine LdS_blk h6 rfl ?_
            refine ⟨?_, trivial⟩
            refine CallC_intro (Has_spec A w6.drew (hS6.s.keep (Fr.drew w6) id id)) (fun v w7 ⟨hv, f7⟩ => ?_)
            subst hv
            have f7 := (Fr.drew w6).no f7
            refine Sd_intro f7.old ?_
            refine ⟨?_, trivial⟩
            refine CallC_intro (ref_Has_spec A w7 (hS6.m.keep f7 id id) hpos) (fun v w8 ⟨hv, f8⟩ => ?_)
            subst hv
            have f8 := f7.no f8
            refine Sd_intro f8.old ?_
            refine Br_f (bneq_self _) ?_
            refine LdS_blk h6 rfl ?_
            refine LdS_blk h6 rfl ?_
            refine ⟨?_, trivial⟩
            refine CallC_intro (Next_spec A w8 (hS6.s.keep f8 id id) (hS6.tab.keep f8 id)) (fun v w9 ⟨⟨z, hv, hz⟩, f9⟩ => ?_)
            subst hv
            have f9 := f8.no f9
            refine Sd_intro f9.old ?_
            refine ⟨?_, trivial⟩
            refine CallC_intro (ref_Next_spec A w9 (hS6.m.keep f9 id id) hpos) (fun v w10 ⟨⟨z', hv, hz'⟩, f10⟩ => ?_)
            subst hv
            obtain rfl := hz.uniq hz'
            have f10 := f9.no f10
            refine Sd_intro f10.old ?_
            refine Br_nf rfl ?_
            refine LdS_blk h6 rfl ?_
            refine LdS_blk h6 rfl ?_
            refine LdS_blk h6 rfl ?_
            refine LdS_blk h6 rfl ?_
            refine ⟨?_, trivial⟩
            refine CallC_intro (Count_spec A B w10 (hS6.s.keep f10 id id) bA.2) (fun v w11 ⟨hv, f11⟩ => ?_)
            subst hv
            have f11 := f10.no f11
            refine Sd_intro f11.old ?_
            refine ⟨?_, trivial⟩
            refine CallC_intro (ref_Count_spec A B w11 (hS6.m.keep f11 id id)) (fun v w12 ⟨hv, f12⟩ => ?_)
            subst hv
            have f12 := f11.no f12
            refine Sd_intro f12.old ?_
            refine Br_nf rfl ?_
            refine ⟨(len - (i + 1)).toNat, _, by omega, ?_, i + 1, rfl, ⟨S, hS6.s.keep f12 id id, hS6.m.keep f12 id id, hS6.tab.keep f12 id, hS6.fr.no f12⟩, (show 0 ≤ i + 1 by omega), (show i + 1 ≤ (len : Int) by omega), (show i + 1 ≤ 200 by omega), rfl⟩
            exact ⟨rfl, rfl, rfl, look_int rfl ei, trivial⟩
    · refine AnyC_ord [0,2,3,4,5,6,1001,7,8,9,11,1010,1012,1013,14,15] T_ok mixed (by kernel_rfl) (by kernel_rfl) (Kp ?_)
      refine LdS_blk hS.m.tab rfl ?_
      refine ⟨?_, trivial⟩
      refine CallC_intro (bits_Len_spec w4.drew (hS.s.keep (Fr.drew w4) id id)) (fun v w5 ⟨hv, f5⟩ => ?_)
      subst hv
      have f5 := (Fr.drew w4).no f5
      refine Sd_intro f5.old ?_
      refine Br_dt (show n = ((n.toNat : Nat) : Int) by omega) ?_
      refine ⟨?_, trivial⟩
      refine CallC_intro (List_spec w5 (hS.s.keep f5 id id) (hS.tab.keep f5 id)) (fun v6 w6 ⟨o6, f6⟩ => ?_)
      have f6 := f5.no f6
      refine Sd_intro f6.old ?_
      refine ⟨?_, trivial⟩
      refine CallC_intro (ref_List_spec w6 (hS.m.keep f6 id id)) (fun v7 w7 ⟨o7, f7⟩ => ?_)
      have f67 := f7
      have f7 := f6.no f7
      refine Sd_intro f7.old ?_
      refine ⟨?_, trivial⟩
      have hle := elems_le S n.toNat
      refine CallC_intro (Same_spec v6 v7 _ _ w7 (o6.keep f67 (fun _ _ => id)).ints o7.ints (by omega)) (fun v w8 ⟨hv, f8⟩ => ?_)
      rw [decide_eq_true rfl] at hv
      subst hv
      have f8 := f7.no f8
      refine Sd_intro f8.old ?_
      exact ⟨rfl, hS.fr.no f8⟩
  · refine AnyC_ord [0,2,3,4,5,6,1001,7,8,9,11,1010,1012,1013,14,15] T_ok mixed (by kernel_rfl) (by kernel_rfl) (Kp ?_)
    refine LdS_blk hS.m.tab rfl ?_
    refine ⟨?_, trivial⟩
    refine CallC_intro (bits_Len_spec w4.drew (hS.s.keep (Fr.drew w4) id id)) (fun v w5 ⟨hv, f5⟩ => ?_)
    subst hv
    have f5 := (Fr.drew w4).no f5
    refine Sd_intro f5.old ?_
    refine Br_dt (show n = ((n.toNat : Nat) : Int) by omega) ?_
    refine ⟨?_, trivial⟩
    refine CallC_intro (List_spec w5 (hS.s.keep f5 id id) (hS.tab.keep f5 id)) (fun v6 w6 ⟨o6, f6⟩ => ?_)
    have f6 := f5.no f6
    refine Sd_intro f6.old ?_
    refine ⟨?_, trivial⟩
    refine CallC_intro (ref_List_spec w6 (hS.m.keep f6 id id)) (fun v7 w7 ⟨o7, f7⟩ => ?_)
    have f67 := f7
    have f7 := f6.no f7
    refine Sd_intro f7.old ?_
    refine ⟨?_, trivial⟩
    have hle := elems_le S n.toNat
    refine CallC_intro (Same_spec v6 v7 _ _ w7 (o6.keep f67 (fun _ _ => id)).ints o7.ints (by omega)) (fun v w8 ⟨hv, f8⟩ => ?_)
    rw [decide_eq_true rfl] at hv
    subst hv
    have f8 := f7.no f8
    refine Sd_intro f8.old ?_
    exact ⟨rfl, hS.fr.no f8⟩
end Go.Proofs.YtilhoimokegpjabDoor
