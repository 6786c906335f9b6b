/- Layer 14 (heap): an object's words, read. -/
import Derived.Test.YtdhbpklmkibmbaaGreatHeapC
import Derived.Test.YtdhbpklmkibmbaaGreatMapI
import Derived.Test.YtdhbpklmkibmbaaGreatRem6
import Derived.Test.YtdhbpklmkibmbaaGreatGSpec
namespace Go.Proofs.YtdhbpklmkibmbaaGreat
open Go.Vc

def wordsAt (ws : List Int) (a : Int) (n : Nat) : List Int := (List.range n).map fun (k : Nat) => (ws[(a + k).toNat]?).getD 0
theorem wordsAt_len (ws : List Int) (a : Int) (n : Nat) : (wordsAt ws a n).length = n := by simp [wordsAt]
theorem wordsAt_snoc (ws : List Int) (a : Int) (n : Nat) : wordsAt ws a (n + 1) = wordsAt ws a n ++ [(ws[(a + n).toNat]?).getD 0] := by
  unfold wordsAt
  rw [List.range_succ, List.map_append]; rfl
structure Ob where
  at_ : Int
  refs : List Int
  data : List Int
def obOf (ws : List Int) (a : Int) (h : Hd) : Ob := ⟨a, wordsAt ws (a + 1) h.ptrs.toNat, wordsAt ws (a + 1 + h.ptrs) (h.size - 1 - h.ptrs).toNat⟩
/-- An object in a map of objects. -/
def EntAt (w : World) (base : Nat) (o : Ob) (v : Value) : Prop := ∃ rv dv, v = .agg #[.int .i64 o.at_, rv, dv] ∧ OwnU w base t_api_Ref rv o.refs ∧ OwnU w base t_uint64 dv o.data
theorem EntAt.keep {w w' : World} {base : Nat} {o : Ob} {v : Value} {F : Nat → Prop} (h : EntAt w base o v) (f : Fr F w w') (hF : ∀ k, base ≤ k → k < w.heap.size → ¬ F k) : EntAt w' base o v := by
  obtain ⟨rv, dv, hv, h1, h2⟩ := h
  exact ⟨rv, dv, hv, h1.keep f (fun k hk => hF k (h1.lt k hk).1 (h1.lt k hk).2), h2.keep f (fun k hk => hF k (h2.lt k hk).1 (h2.lt k hk).2)⟩
theorem EntAt.low {w : World} {base base' : Nat} {o : Ob} {v : Value} (h : EntAt w base o v) (hb : base' ≤ base) : EntAt w base' o v := by
  obtain ⟨rv, dv, hv, h1, h2⟩ := h
  exact ⟨rv, dv, hv, own_low h1 hb, own_low h2 hb⟩
set_option maxHeartbeats 1000000 in
theorem read_spec {c : Cfg} {p : HP} {hb : Nat} {z : Nat → Nat} {s : HS} {ar : Nat} (a : Int) (hd : Hd) (w : World) (H : HA w z c hb p s ar) (h0 : 0 ≤ a) (hs : 1 ≤ hd.size) (hle : a + hd.size ≤ (s.ws.length : Int)) (hp0 : 0 ≤ hd.ptrs) (hp1 : hd.ptrs < hd.size) :
    CallC Pr f_heap_Heap_read [ptr hb, .int .i64 a, .agg hd.L.toArray] w (fun v w' => (∃ q, HA w' z c hb p (s.setAcc q) ar) ∧ Fr (· = p.ab) w w' ∧ EntAt w' w.heap.size (obOf s.ws a hd) v) := by
  have hpp := P_le H.h.ok
  have hwl := H.h.wsl
  obtain ⟨ra, rc, er, hT⟩ := H.h.cells
  have habl := H.a.lt
  have nab : hb ≠ p.ab := fun e => by have := H.h.tabz; rw [e, H.zb] at this; cases this
  have hbl := H.h.tab.lt
  refine call_sound T_ok fun_heap_Heap_read rfl (by kernel_rfl) rfl (Kp ?_)
  refine NewC_blk (fun p5 w1 e_p5 b5 f1 z1 => ?_)
  have b5 : Blk w1 p5 t_api_Header hd.L := b5
  refine NewC_blk (fun p6 w2 e_p6 b6 f2 z2 => ?_)
  have b6 : Blk w2 p6 t_heap_object [.int .i64 0, .slice none 0 0, .slice none 0 0] := b6
  refine NewC_blk (fun p7 w3 e_p7 b7 f3 z3 => ?_)
  refine StN_blk (b7) rfl (Nat.le_of_ble_eq_true rfl) (fun w4 b7 f4 z4 => ?_)
  have b7 : Blk w4 p7 t_heap_object [.int .i64 a, .slice none 0 0, .slice none 0 0] := b7
  have f34 : Fr No w2 w4 := f3.new f4 (fun _ _ e => e) (fun k e => by omega)
  have F4 : Fr No w w4 := (f1.no f2).no f34
  have b5 := (b5.keep f2 id).keep f34 id
  have b6 := b6.keep f34 id
  have zz := F4.size
  refine LoopC_intro (α := Int) (fun i => [(0, ptr hb), (1, .int .i64 a), (5, .pointer (some ⟨p5, 0, none⟩)), (6, .pointer (some ⟨p6, 0, none⟩)), (7, .pointer (some ⟨p7, 0, none⟩)), (8, .int .i64 i)])
    (fun m i w5 => (∃ q, HA w5 z c hb p (s.setAcc q) ar) ∧ Fr (· = p.ab) w w5 ∧ w4.heap.size ≤ w5.heap.size ∧ Blk w5 p5 t_api_Header hd.L ∧ Blk w5 p6 t_heap_object [.int .i64 0, .slice none 0 0, .slice none 0 0] ∧ 1 ≤ i ∧ i ≤ hd.size ∧
      (∃ rv dv, Blk w5 p7 t_heap_object [.int .i64 a, rv, dv] ∧ OwnU w5 w4.heap.size t_api_Ref rv (wordsAt s.ws (a + 1) (min (i - 1) hd.ptrs).toNat) ∧ OwnU w5 w4.heap.size t_uint64 dv (wordsAt s.ws (a + 1 + hd.ptrs) (i - 1 - hd.ptrs).toNat) ∧ ∀ k, rv.ownBlock = some k → dv.ownBlock ≠ some k) ∧ m = (hd.size - i).toNat)
    (hd.size - 1).toNat 1 ⟨rfl, rfl, rfl, rfl, rfl, rfl, trivial⟩ ⟨⟨s.acc, H.no F4⟩, F4.weak (fun _ _ e => e.elim), Nat.le_refl _, b5, b6, Int.le_refl _, hs, ⟨_, _, b7, ?_, ?_, fun k hk => by cases hk⟩, rfl⟩ (fun m i w5 hJ => Kp ?_)
  · rw [show (min (1 - 1) hd.ptrs).toNat = 0 by omega]; exact OwnU.nil _ _ _
  · rw [show (1 - 1 - hd.ptrs).toNat = 0 by omega]; exact OwnU.nil _ _ _
  obtain ⟨⟨q, H5⟩, F5, s5, c5, c6, i0, i1, ⟨rv, dv, c7, orv, odv, ne⟩, hm⟩ := hJ
  have i0 : 1 ≤ i := i0
  have i1 : i ≤ hd.size := i1
  have hm : m = (hd.size - i).toNat := hm
  obtain ⟨rva, rvc, erv⟩ := own_slice orv
  obtain ⟨dva, dvc, edv⟩ := own_slice odv
  refine LdC_blk (c5) rfl ?_
  refine Br_dec (fun g => ?_) (fun g => ?_)
  rotate_left
  · have g : ¬ i < hd.size := g
    rw [erv, edv] at c7
    refine LdN_blk (vs := [.int .i64 a, .slice rva _ rvc, .slice dva _ dvc]) c7 rfl rfl ?_
    refine StN_blk c6 rfl (Nat.le_of_ble_eq_true rfl) (fun w6 b6 f6 z6 => ?_)
    have b6 : Blk w6 p6 t_heap_object [.int .i64 a, .slice rva _ rvc, .slice dva _ dvc] := b6
    refine LdN_blk (vs := [.int .i64 a, .slice rva _ rvc, .slice dva _ dvc]) b6 rfl rfl ?_
    obtain ⟨H6, F6⟩ := H.new H5 F5 f6 (fun k e => by have e : k = p6 := e; omega)
    refine ⟨⟨q, H6⟩, F6, ⟨rv, dv, by rw [erv, edv]; rfl, ?_, ?_⟩⟩
    · have : (obOf s.ws a hd).refs = wordsAt s.ws (a + 1) (min (i - 1) hd.ptrs).toNat := by
        show wordsAt s.ws (a + 1) hd.ptrs.toNat = _
        rw [show (min (i - 1) hd.ptrs).toNat = hd.ptrs.toNat by omega]
      rw [this]
      exact own_low (orv.keep f6 (fun k hk e => by have := orv.lt k hk; have e : k = p6 := e; omega)) zz
    · have : (obOf s.ws a hd).data = wordsAt s.ws (a + 1 + hd.ptrs) (i - 1 - hd.ptrs).toNat := by
        show wordsAt s.ws (a + 1 + hd.ptrs) (hd.size - 1 - hd.ptrs).toNat = _
        rw [show (hd.size - 1 - hd.ptrs).toNat = (i - 1 - hd.ptrs).toNat by omega]
      rw [this]
      exact own_low (odv.keep f6 (fun k hk e => by have := odv.lt k hk; have e : k = p6 := e; omega)) zz
  have g : i < hd.size := g
  have ew : IntKind.i64.wrap (a + i) = a + i := wrap_i64 (by omega) (by omega)
  have ew1 : IntKind.i64.wrap (i + 1) = i + 1 := wrap_i64 (by omega) (by omega)
  have hx := List.getElem?_eq_getElem (show (a + i).toNat < s.ws.length by omega)
  obtain ⟨x, ex⟩ : ∃ x, x = s.ws[(a + i).toNat]'(by omega) := ⟨_, rfl⟩
  rw [← ex] at hx
  refine LdC_blk (hT.keep F5 nab) rfl ?_
  have hL := Load_in (x := x) (a + i) w5 H5.a (by omega) hx
  rw [← ew] at hL
  refine CallC_intro hL (fun v w6 ⟨hv, hA6, f6⟩ => ?_)
  subst hv
  have F6 := F5.same f6
  have H6 := H.aft F6 hA6
  have n5 : p5 ≠ p.ab := by omega
  have n6 : p6 ≠ p.ab := by omega
  have n7 : p7 ≠ p.ab := by omega
  have d5 := c5.keep f6 n5
  have d6 := c6.keep f6 n6
  have d7 := c7.keep f6 n7
  have orv6 := orv.keep f6 (fun k hk e => by have := orv.lt k hk; have e : k = p.ab := e; omega)
  have odv6 := odv.keep f6 (fun k hk e => by have := odv.lt k hk; have e : k = p.ab := e; omega)
  rw [erv, edv] at d7
  refine LdC_blk (d5) rfl ?_
  refine Br_dec (fun g1 => ?_) (fun g1 => ?_)
  · have g1 : i ≤ hd.ptrs := g1
    refine LdC_blk (d7) rfl ?_
    refine NewC_blk (fun y w7 e_y b7' f7 z7 => ?_)
    have b7' : Blk w7 y t_api_Ref (u64i [x]) := b7'
    have orv7 : w7.ownsRow w4.heap.size t_api_Ref 1 rv _ _ := orv6.keep f7 (fun _ _ => id)
    rw [erv] at orv7
    rw [wordsAt_len] at orv7
    have s6 := f6.size
    have s7 := f7.size
    rw [wordsAt_len]
    refine ApL T_ok (e := t_api_Ref) (base := w4.heap.size) (news := u64i [x]) rfl rfl rfl (by decide) orv7 (by omega) b7' rfl rfl rfl (by omega) (show ((min (i - 1) hd.ptrs).toNat + 1) * 8 ≤ _ by omega) (fun v' w8 o8 f8 loc => ?_)
    have hge : ∀ k, (Value.slice rva (min (i - 1) hd.ptrs).toNat rvc).ownBlock = some k → w4.heap.size ≤ k ∧ k < w6.heap.size := fun k e => by
      have := orv6.lt k (by rw [erv, wordsAt_len]; exact e)
      exact this
    obtain ⟨v8a, v8c, ev8⟩ := own_slice o8
    subst ev8
    have n87 : ∀ k, (Value.slice rva (min (i - 1) hd.ptrs).toNat rvc).ownBlock = some k → k ≠ p5 ∧ k ≠ p6 ∧ k ≠ p7 := fun k e => by have := hge k e; omega
    refine StC_blk ((d7.keep f7 id).keep f8 (fun e => (n87 p7 e).2.2 rfl)) rfl rfl (fun w9 b9 f9 z9 => ?_)
    obtain ⟨H7, F7⟩ := H.new H6 F6 f7 (fun k e => e.elim)
    obtain ⟨H8, F8⟩ := H.new H7 F7 f8 (fun k e => by have := hge k e; omega)
    obtain ⟨H9, F9⟩ := H.new H8 F8 f9 (fun k e => by have e : k = p7 := e; omega)
    have s8 := f8.size
    have b9 : Blk w9 p7 t_heap_object [.int .i64 a, .slice v8a _ v8c, .slice dva _ dvc] := b9
    have lt8 : ∀ k, (Value.slice v8a ((min (i - 1) hd.ptrs).toNat + 1) v8c).ownBlock = some k → w4.heap.size ≤ k ∧ k < w8.heap.size := fun k e => World.ownsRow.lt o8 k e
    refine ⟨(hd.size - (i + 1)).toNat, _, by omega, ?_, i + 1, rfl, ⟨_, H9⟩, F9, by omega, ((d5.keep f7 id).keep f8 (fun e => (n87 p5 e).1 rfl)).keep f9 (fun e => by have e : p5 = p7 := e; omega), ((d6.keep f7 id).keep f8 (fun e => (n87 p6 e).2.1 rfl)).keep f9 (fun e => by have e : p6 = p7 := e; omega), (show 1 ≤ i + 1 by omega), (show i + 1 ≤ hd.size by omega), ⟨_, _, b9, ?_, ?_, fun k hk e => ?_⟩, rfl⟩
    · exact ⟨rfl, rfl, rfl, rfl, rfl, look_int rfl ew1, trivial⟩
    · have o9 := own_keepV o8 f9 (fun k hk e => by have := lt8 k hk; have e : k = p7 := e; omega)
      have e1 : (min (i + 1 - 1) hd.ptrs).toNat = (min (i - 1) hd.ptrs).toNat + 1 := by omega
      show OwnU w9 w4.heap.size t_api_Ref _ (wordsAt s.ws (a + 1) (min (i + 1 - 1) hd.ptrs).toNat)
      rw [e1, wordsAt_snoc, show a + 1 + (((min (i - 1) hd.ptrs).toNat : Nat) : Int) = a + i by omega, hx]
      refine ownU_snoc ?_
      rw [wordsAt_len]
      exact o9
    · have odv9 := ((odv6.keep f7 (fun _ _ => id)).keep f8 (fun k hk e => ne k (by rw [erv, wordsAt_len]; exact e) hk)).keep f9 (fun k hk e => by have := odv6.lt k hk; have e : k = p7 := e; omega)
      show OwnU w9 w4.heap.size t_uint64 _ (wordsAt s.ws (a + 1 + hd.ptrs) (i + 1 - 1 - hd.ptrs).toNat)
      rw [edv] at odv9
      rw [show (i + 1 - 1 - hd.ptrs).toNat = (i - 1 - hd.ptrs).toNat by omega]
      exact odv9
    · rcases loc with l1 | l1
      · rw [l1] at hk
        exact ne k (by rw [erv, wordsAt_len]; exact hk) (by rw [edv]; exact e)
      · have hk : (Value.slice v8a ((min (i - 1) hd.ptrs).toNat + 1) v8c).ownBlock = some k := hk
        rw [l1] at hk
        injection hk with hk
        have := odv6.lt k (by rw [edv]; exact e)
        omega
  · have g1 : ¬ i ≤ hd.ptrs := g1
    refine LdC_blk (d7) rfl ?_
    refine NewC_blk (fun y w7 e_y b7' f7 z7 => ?_)
    have b7' : Blk w7 y t_uint64 (u64i [x]) := b7'
    have odv7 : w7.ownsRow w4.heap.size t_uint64 1 dv _ _ := odv6.keep f7 (fun _ _ => id)
    rw [edv] at odv7
    rw [wordsAt_len] at odv7
    have s6 := f6.size
    have s7 := f7.size
    rw [wordsAt_len s.ws (a + 1 + hd.ptrs)]
    refine ApL T_ok (e := t_uint64) (base := w4.heap.size) (news := u64i [x]) rfl rfl rfl (by decide) odv7 (by omega) b7' rfl rfl rfl (by omega) (show ((i - 1 - hd.ptrs).toNat + 1) * 8 ≤ _ by omega) (fun v' w8 o8 f8 loc => ?_)
    have hge : ∀ k, (Value.slice dva (i - 1 - hd.ptrs).toNat dvc).ownBlock = some k → w4.heap.size ≤ k ∧ k < w6.heap.size := fun k e => by
      have := odv6.lt k (by rw [edv, wordsAt_len]; exact e)
      exact this
    obtain ⟨v8a, v8c, ev8⟩ := own_slice o8
    subst ev8
    have n87 : ∀ k, (Value.slice dva (i - 1 - hd.ptrs).toNat dvc).ownBlock = some k → k ≠ p5 ∧ k ≠ p6 ∧ k ≠ p7 := fun k e => by have := hge k e; omega
    refine StC_blk ((d7.keep f7 id).keep f8 (fun e => (n87 p7 e).2.2 rfl)) rfl rfl (fun w9 b9 f9 z9 => ?_)
    obtain ⟨H7, F7⟩ := H.new H6 F6 f7 (fun k e => e.elim)
    obtain ⟨H8, F8⟩ := H.new H7 F7 f8 (fun k e => by have := hge k e; omega)
    obtain ⟨H9, F9⟩ := H.new H8 F8 f9 (fun k e => by have e : k = p7 := e; omega)
    have s8 := f8.size
    have b9 : Blk w9 p7 t_heap_object [.int .i64 a, .slice rva _ rvc, .slice v8a _ v8c] := b9
    have lt8 : ∀ k, (Value.slice v8a ((i - 1 - hd.ptrs).toNat + 1) v8c).ownBlock = some k → w4.heap.size ≤ k ∧ k < w8.heap.size := fun k e => World.ownsRow.lt o8 k e
    refine ⟨(hd.size - (i + 1)).toNat, _, by omega, ?_, i + 1, rfl, ⟨_, H9⟩, F9, by omega, ((d5.keep f7 id).keep f8 (fun e => (n87 p5 e).1 rfl)).keep f9 (fun e => by have e : p5 = p7 := e; omega), ((d6.keep f7 id).keep f8 (fun e => (n87 p6 e).2.1 rfl)).keep f9 (fun e => by have e : p6 = p7 := e; omega), (show 1 ≤ i + 1 by omega), (show i + 1 ≤ hd.size by omega), ⟨_, _, b9, ?_, ?_, fun k hk e => ?_⟩, rfl⟩
    · exact ⟨rfl, rfl, rfl, rfl, rfl, look_int rfl ew1, trivial⟩
    · have orv9 := ((orv6.keep f7 (fun _ _ => id)).keep f8 (fun k hk e => ne k hk (by rw [edv, wordsAt_len]; exact e))).keep f9 (fun k hk e => by have := orv6.lt k hk; have e : k = p7 := e; omega)
      show OwnU w9 w4.heap.size t_api_Ref _ (wordsAt s.ws (a + 1) (min (i + 1 - 1) hd.ptrs).toNat)
      rw [erv] at orv9
      rw [show (min (i + 1 - 1) hd.ptrs).toNat = (min (i - 1) hd.ptrs).toNat by omega]
      exact orv9
    · have o9 := own_keepV o8 f9 (fun k hk e => by have := lt8 k hk; have e : k = p7 := e; omega)
      have e1 : (i + 1 - 1 - hd.ptrs).toNat = (i - 1 - hd.ptrs).toNat + 1 := by omega
      show OwnU w9 w4.heap.size t_uint64 _ (wordsAt s.ws (a + 1 + hd.ptrs) (i + 1 - 1 - hd.ptrs).toNat)
      rw [e1, wordsAt_snoc, show a + 1 + hd.ptrs + (((i - 1 - hd.ptrs).toNat : Nat) : Int) = a + i by omega, hx]
      refine ownU_snoc ?_
      rw [wordsAt_len]
      exact o9
    · have e : (Value.slice v8a ((i - 1 - hd.ptrs).toNat + 1) v8c).ownBlock = some k := e
      rcases loc with l1 | l1
      · rw [l1] at e
        exact ne k (by rw [erv]; exact hk) (by rw [edv, wordsAt_len]; exact e)
      · rw [l1] at e
        injection e with e
        have := orv6.lt k (by rw [erv]; exact hk)
        omega
end Go.Proofs.YtdhbpklmkibmbaaGreat
/- Layer 14 (heap): the objects that are known. -/
namespace Go.Proofs.YtdhbpklmkibmbaaGreat
open Go.Vc

inductive All2 {α β : Type} (R : α → β → Prop) : List α → List β → Prop
  | nil : All2 R [] []
  | cons {a : α} {b : β} {l : List α} {m : List β} : R a b → All2 R l m → All2 R (a :: l) (b :: m)
theorem keyU : KeyOk Pr t_api_Ref (kvI .u64) := int_key Tryz.underlying34
def Ks (L : List Ob) : List Int := L.map fun o => o.at_ + 1
def badB (L : List Ob) (r : Int) : Bool := decide (r ≠ 0 ∧ r ∉ Ks L)
def knownB (L : List Ob) (l : List Int) : Bool := l.all fun r => !badB L r
/-- A map of objects. -/
def AllAt (w : World) (base mb : Nat) (L : List Ob) : Prop := base ≤ mb ∧ ∃ ents : List (Int × Value), MapG (kvI .u64) w mb ents ∧ All2 (fun (e : Int × Value) (o : Ob) => e.1 = o.at_ + 1 ∧ EntAt w base o e.2) ents L
theorem all2_keep {w w' : World} {base : Nat} {ents : List (Int × Value)} {L : List Ob} (h : All2 (fun (e : Int × Value) (o : Ob) => e.1 = o.at_ + 1 ∧ EntAt w base o e.2) ents L) {F : Nat → Prop} (f : Fr F w w') (hF : ∀ k, base ≤ k → k < w.heap.size → ¬ F k) :
    All2 (fun (e : Int × Value) (o : Ob) => e.1 = o.at_ + 1 ∧ EntAt w' base o e.2) ents L := by
  induction h with
  | nil => exact .nil
  | cons h1 _ ih => exact .cons ⟨h1.1, h1.2.keep f hF⟩ ih
theorem AllAt.keep {w w' : World} {base mb : Nat} {L : List Ob} {F : Nat → Prop} (h : AllAt w base mb L) (f : Fr F w w') (hF : ∀ k, base ≤ k → k < w.heap.size → ¬ F k) : AllAt w' base mb L := by
  obtain ⟨hb, ents, hM, h2⟩ := h
  exact ⟨hb, ents, hM.keep f (hF mb hb hM.lt), all2_keep h2 f hF⟩
theorem all2_keys {w : World} {base : Nat} {ents : List (Int × Value)} {L : List Ob} (h : All2 (fun (e : Int × Value) (o : Ob) => e.1 = o.at_ + 1 ∧ EntAt w base o e.2) ents L) : ents.map (·.1) = Ks L := by
  induction h with
  | nil => rfl
  | cons h1 _ ih => rw [List.map_cons, ih, h1.1]; rfl
theorem all2_mem {w : World} {base : Nat} {ents : List (Int × Value)} {L : List Ob} (h : All2 (fun (e : Int × Value) (o : Ob) => e.1 = o.at_ + 1 ∧ EntAt w base o e.2) ents L) {x : Int × Value} (hx : x ∈ ents) : ∃ o ∈ L, x.1 = o.at_ + 1 ∧ EntAt w base o x.2 := by
  induction h with
  | nil => cases hx
  | cons h1 _ ih =>
    rcases List.mem_cons.1 hx with e | e
    · subst e; exact ⟨_, List.mem_cons_self, h1⟩
    · obtain ⟨o, ho, h2⟩ := ih e
      exact ⟨o, List.mem_cons_of_mem _ ho, h2⟩
theorem AllAt.nodup {w : World} {base mb : Nat} {L : List Ob} (h : AllAt w base mb L) : (Ks L).Nodup := by
  obtain ⟨_, ents, hM, h2⟩ := h
  rw [← all2_keys h2]; exact hM.nodup
/-- A look at a reference. -/
theorem AllAt.look {w : World} {base mb : Nat} {L : List Ob} (h : AllAt w base mb L) (r : Int) : ∃ ents, MapG (kvI .u64) w mb ents ∧
    ((∃ o ∈ L, r = o.at_ + 1 ∧ ∃ v, getM ents r = some v ∧ EntAt w base o v) ∨ (r ∉ Ks L ∧ getM ents r = none)) := by
  obtain ⟨_, ents, hM, h2⟩ := h
  refine ⟨ents, hM, ?_⟩
  cases hg : getM ents r with
  | none =>
    right
    exact ⟨by rw [← all2_keys h2]; exact getM_none.1 hg, rfl⟩
  | some v =>
    left
    have := (getM_some hM.nodup).1 hg
    obtain ⟨o, ho, h3, h4⟩ := all2_mem h2 this
    exact ⟨o, ho, h3, v, rfl, h4⟩
theorem objects11_spec {base mb t4 u4 : Nat} {L : List Ob} (r : Int) (w : World) (h : AllAt w base mb L) (h4 : Blk w t4 u4 [.map (some mb)]) :
    CallC Pr f_heap_Heap_objects_1_1 [.int .u64 r, .pointer (some ⟨t4, 0, none⟩)] w (fun v w' => v = .bool (badB L r) ∧ Fr No w w') := by
  refine call_sound T_ok fun_heap_Heap_objects_1_1 rfl (by kernel_rfl) rfl (Kp ?_)
  refine LdC_blk (h4) rfl ?_
  obtain ⟨ents, hM, hl⟩ := h.look r
  refine LookC T_ok (kv := kvI .u64) rfl keyU zv_heap_object hM r true ?_
  rcases hl with ⟨o, ho, hr, v, hg, rv, dv, hv, orv, odv⟩ | ⟨hn, hg⟩
  · obtain ⟨a1, c1, e1⟩ := own_slice orv
    obtain ⟨a2, c2, e2⟩ := own_slice odv
    rw [hg]
    subst hv; subst e1; subst e2
    refine NewC_blk (fun q w1 e_q b1 f1 z1 => ?_)
    refine StN_blk (b1) rfl (Nat.le_of_ble_eq_true rfl) (fun w2 b2 f2 z2 => ?_)
    have F2 : Fr No w w2 := f1.new f2 (fun _ _ e => e) (fun k e => by omega)
    have hb : badB L r = false := decide_eq_false (fun e => e.2 (List.mem_map.2 ⟨o, ho, hr.symm⟩))
    refine Br_ndec (fun g => ?_) (fun g => ?_)
    · exact ⟨by rw [hb]; rfl, F2⟩
    · exact ⟨by rw [hb]; rfl, F2⟩
  · rw [hg]
    refine NewC_blk (fun q w1 e_q b1 f1 z1 => ?_)
    refine StN_blk (b1) rfl (Nat.le_of_ble_eq_true rfl) (fun w2 b2 f2 z2 => ?_)
    have F2 : Fr No w w2 := f1.new f2 (fun _ _ e => e) (fun k e => by omega)
    refine Br_ndec (fun g => ?_) (fun g => ?_)
    · have g : ¬ r = 0 := g
      have hb : badB L r = true := decide_eq_true ⟨g, hn⟩
      exact ⟨by rw [hb]; rfl, F2⟩
    · have g : r = 0 := g
      have hb : badB L r = false := decide_eq_false (fun e => e.1 g)
      exact ⟨by rw [hb]; rfl, F2⟩
theorem IndexU_spec {base bl te mb t4 u4 : Nat} {L : List Ob} {lv : Value} {l : List Int} (w : World) (h : AllAt w base mb L) (h4 : Blk w t4 u4 [.map (some mb)]) (hl : OwnU w bl te lv l) (hn : l.length ≤ 4194304) :
    CallC Pr f_slices_IndexFunc___api_Ref_api_Ref_ [lv, .func (.func f_heap_Heap_objects_1_1) #[] #[.pointer (some ⟨t4, 0, none⟩)]] w (fun v w' => (∃ i : Int, v = .int .i64 i ∧ (0 ≤ i ↔ knownB L l = false)) ∧ Fr No w w') := by
  obtain ⟨a, c, rfl, hc⟩ := hl.cell
  refine call_sound T_ok fun_slices_IndexFunc___api_Ref_api_Ref_ rfl (by kernel_rfl) rfl (Kp ?_)
  refine LoopC_intro (α := Int) (fun i => [(0, .slice a l.length c), (1, .func (.func f_heap_Heap_objects_1_1) #[] #[.pointer (some ⟨t4, 0, none⟩)]), (7, .int .i64 l.length), (8, .int .i64 i)])
    (fun m i w1 => Fr No w w1 ∧ 0 ≤ i ∧ i ≤ l.length ∧ knownB L (l.take i.toNat) = true ∧ m = (l.length - i).toNat)
    l.length 0 ⟨rfl, rfl, rfl, rfl, trivial⟩ ⟨Fr.refl _ _, Int.le_refl _, (show (0 : Int) ≤ l.length by omega), rfl, (show l.length = ((l.length : Int) - 0).toNat by omega)⟩ (fun m i w1 hJ => Kp ?_)
  obtain ⟨F1, i0, i1, hk, hm⟩ := hJ
  have i0 : 0 ≤ i := i0
  have i1 : i ≤ l.length := i1
  have hm : m = (l.length - i).toNat := hm
  refine Br_dec (fun g => ?_) (fun g => ?_)
  rotate_left
  · have g : ¬ i < (l.length : Int) := g
    have hk : knownB L (l.take i.toNat) = true := hk
    rw [List.take_of_length_le (by omega)] at hk
    refine ⟨⟨-1, rfl, ?_⟩, F1⟩
    rw [hk]; simp
  have g : i < (l.length : Int) := g
  have hx := List.getElem?_eq_getElem (show i.toNat < l.length by omega)
  obtain ⟨x, ex⟩ : ∃ x, x = l[i.toNat]'(by omega) := ⟨_, rfl⟩
  rw [← ex] at hx
  obtain ⟨ad, rfl, _⟩ := hc _ _ hx
  have hl1 : OwnU w1 bl te (.slice (some ad) l.length c) l := hl.keep F1 (fun _ _ => id)
  obtain ⟨a', c', ev, hc1⟩ := hl1.cell
  injection ev with e1 e2 e3
  subst e1
  obtain ⟨ad', e4, hcell⟩ := hc1 _ _ hx
  injection e4 with e4
  subst e4
  refine Sd_intro ((show 0 ≤ i ∧ i < (l.length : Int) from ⟨i0, g⟩)) ?_
  refine LdC_intro (v := .int .u64 x) (by rw [Nat.mul_one]; exact hcell) ?_
  refine CallC_intro (objects11_spec x w1 (h.keep F1 (fun _ _ _ => id)) (h4.keep F1 id)) (fun v w2 ⟨hv, f2⟩ => ?_)
  subst hv
  have F2 := F1.no f2
  refine Br_intro (fun hb => ?_) (fun hb => ?_)
  · refine ⟨⟨i, rfl, ?_⟩, F2⟩
    have : knownB L l = false := by
      unfold knownB
      rw [List.all_eq_false]
      exact ⟨x, List.mem_of_getElem? hx, by rw [hb]; decide⟩
    rw [this]
    exact ⟨fun _ => rfl, fun _ => i0⟩
  · refine ⟨(l.length - (i + 1)).toNat, _, by omega, ?_, i + 1, rfl, F2, (show 0 ≤ i + 1 by omega), (show i + 1 ≤ (l.length : Int) by omega), ?_, rfl⟩
    · exact ⟨rfl, rfl, rfl, look_int rfl (wrap_i64 (by omega) (by omega)), trivial⟩
    · show knownB L (l.take (i + 1).toNat) = true
      have hk : knownB L (l.take i.toNat) = true := hk
      rw [show (i + 1).toNat = i.toNat + 1 by omega, List.take_add_one, hx]
      unfold knownB at hk ⊢
      rw [List.all_append, hk]
      show (true && (!badB L x && true)) = true
      rw [hb]; rfl
theorem objects1_spec {base bl te mb t4 u4 : Nat} {L : List Ob} {lv : Value} {l : List Int} (w : World) (h : AllAt w base mb L) (h4 : Blk w t4 u4 [.map (some mb)]) (hl : OwnU w bl te lv l) (hn : l.length ≤ 4194304) :
    CallC Pr f_heap_Heap_objects_1 [lv, .pointer (some ⟨t4, 0, none⟩)] w (fun v w' => v = .bool (knownB L l) ∧ Fr No w w') := by
  refine call_sound T_ok fun_heap_Heap_objects_1 rfl (by kernel_rfl) rfl (Kp ?_)
  refine call_sound T_ok fun_slices_ContainsFunc___api_Ref_api_Ref_ rfl (by kernel_rfl) rfl (Kp ?_)
  refine CallC_intro (IndexU_spec w h h4 hl hn) (fun v w1 ⟨⟨i, hv, hi⟩, f1⟩ => ?_)
  subst hv
  refine ⟨?_, f1⟩
  show Value.bool (!decide (i ≥ 0)) = _
  cases hk : knownB L l with
  | false => rw [decide_eq_true (hi.2 hk)]; rfl
  | true => rw [decide_eq_false (fun e => by have := hi.1 e; rw [hk] at this; cases this)]; rfl
end Go.Proofs.YtdhbpklmkibmbaaGreat
/- Layer 14 (heap): objects, Check. -/
namespace Go.Proofs.YtdhbpklmkibmbaaGreat
open Go.Vc

def rowObs (ws : List Int) (l : List Int) : List Ob := l.filterMap fun a => match hdr ws a with | some h => if h.kind = 1 then some (obOf ws a h) else none | none => none
noncomputable def objsF (c : Cfg) (s : HS) : Nat → Option (List Ob)
  | 0 => some []
  | n + 1 => match objsF c s n, rowS c s n with
    | some L, some l => some (L ++ rowObs s.ws l)
    | _, _ => none
noncomputable def objsS (c : Cfg) (s : HS) : Option (List Ob) := objsF c s c.c1.toNat
noncomputable def okS (c : Cfg) (s : HS) : Option (List Ob) := match objsS c s with
  | some L => if (∀ o ∈ L, knownB L o.refs = true) ∧ (∀ l ∈ s.refs, knownB L l = true) then some L else none
  | none => none
theorem objsF_none {c : Cfg} {s : HS} {k : Nat} (h : rowS c s k = none) : ∀ n, k < n → objsF c s n = none := by
  intro n
  induction n with
  | zero => intro h1; omega
  | succ n ih =>
    intro h1
    unfold objsF
    by_cases e : k = n
    · subst e
      rw [h]
      cases objsF c s k <;> rfl
    · rw [ih (by omega)]
theorem objsF_ob {c : Cfg} {s : HS} : ∀ {n : Nat} {L : List Ob}, objsF c s n = some L → ∀ o ∈ L, ∃ hd, hdr s.ws o.at_ = some hd ∧ hd.kind = 1 ∧ o = obOf s.ws o.at_ hd := by
  intro n
  induction n with
  | zero =>
    intro L e o ho
    injection e with e
    subst e
    cases ho
  | succ n ih =>
    intro L e o ho
    unfold objsF at e
    split at e
    · rename_i L0 l hL hl
      injection e with e
      subst e
      rcases List.mem_append.1 ho with ho | ho
      · exact ih hL o ho
      · unfold rowObs at ho
        obtain ⟨a, ha, e⟩ := List.mem_filterMap.1 ho
        split at e
        · rename_i hd hh
          split at e
          · rename_i hk
            injection e with e
            subst e
            exact ⟨hd, hh, hk, rfl⟩
          · cases e
        · cases e
    · cases e
theorem objsF_len {c : Cfg} {s : HS} {n : Nat} {L : List Ob} (h : objsF c s n = some L) : ∀ o ∈ L, o.refs.length ≤ 4194304 := fun o ho => by
  obtain ⟨hd, h1, h2, h3⟩ := objsF_ob h o ho
  have := hdr_ok h1
  rw [h3]
  show (wordsAt _ _ _).length ≤ _
  rw [wordsAt_len]
  omega
theorem rowObs_snoc (ws l : List Int) (a : Int) : rowObs ws (l ++ [a]) = rowObs ws l ++ rowObs ws [a] := by unfold rowObs; rw [List.filterMap_append]
section
variable {w : World} {z : Nat → Nat} {c : Cfg} {hb : Nat} {p : HP} {s : HS}
/-- A row lies in its region, in order. -/
theorem rowS_in (h : HeapAt w z c hb p s) {r : Int} (h0 : 0 ≤ r) (h1 : r < c.c1) {l : List Int} (e : rowS c s r = some l) :
    l.Pairwise (· < ·) ∧ ∀ a ∈ l, r * P c ≤ a ∧ a < r * P c + P c ∧ ∃ hd, hdr s.ws a = some hd ∧ hd.kind ≠ 3 ∧ a + hd.size ≤ (s.ws.length : Int) := by
  have hp := P_le h.ok
  have hend := end_in h h0 h1
  have hmul := row_mul h.ok h0 h1
  have hwl := h.wsl
  unfold rowS at e
  split at e
  · injection e with e
    subst e
    exact ⟨List.Pairwise.nil, fun a ha => by cases ha⟩
  · split at e
    · split at e
      · rename_i hd hh
        split at e
        · rename_i hc
          injection e with e
          subst e
          have ho := hdr_ok hh
          have hw := wholeB_iff.1 hc.2
          refine ⟨List.pairwise_singleton _ _, fun a ha => ?_⟩
          have := List.mem_singleton.1 ha
          subst this
          refine ⟨Int.le_refl _, by omega, hd, hh, by omega, ?_⟩
          have hs := hw.2.2
          unfold spanC at hs
          rw [if_neg (by omega)] at hs
          have d1 := Int.mul_ediv_add_emod (hd.size - 1) (P c)
          have d2 := Int.emod_lt_of_pos (hd.size - 1) (show 0 < P c by omega)
          have m1 : (r + ((hd.size - 1) / P c + 1)) * P c ≤ c.c1 * P c := Int.mul_le_mul_of_nonneg_right hs (by omega)
          rw [Int.add_mul, Int.add_mul, Int.one_mul] at m1
          rw [Int.mul_comm (P c)] at d1
          omega
        · cases e
      · cases e
    · have t := (starts_iff hend.1).1 e
      refine ⟨t.apart.imp fun ⟨hd, h2, h3⟩ => by have := (hdr_ok h2).2.1; omega, fun a ha => ?_⟩
      obtain ⟨q1, hd, q2, q3, q4⟩ := t.mem a ha
      have := (hdr_ok q2).2.1
      exact ⟨q1, by omega, hd, q2, q3, by omega⟩
theorem rowObs_mem {ws l : List Int} {o : Ob} (h : o ∈ rowObs ws l) : o.at_ ∈ l ∧ ∃ hd, hdr ws o.at_ = some hd ∧ hd.kind = 1 ∧ o = obOf ws o.at_ hd := by
  unfold rowObs at h
  obtain ⟨a, ha, e⟩ := List.mem_filterMap.1 h
  split at e
  · rename_i hd hh
    split at e
    · rename_i hk
      injection e with e
      subst e
      exact ⟨ha, hd, hh, hk, rfl⟩
    · cases e
  · cases e
theorem objsF_lt (h : HeapAt w z c hb p s) : ∀ (n : Nat) (L : List Ob), (n : Int) ≤ c.c1 → objsF c s n = some L → ∀ o ∈ L, 0 ≤ o.at_ ∧ o.at_ < n * P c := by
  intro n
  induction n with
  | zero =>
    intro L _ e o ho
    injection e with e
    subst e
    cases ho
  | succ n ih =>
    intro L hn e o ho
    unfold objsF at e
    split at e
    · rename_i L0 l hL hl
      injection e with e
      subst e
      have hp := P_le h.ok
      have hm : ((n + 1 : Nat) : Int) * P c = (n : Int) * P c + P c := by rw [Int.natCast_add, Int.add_mul]; simp
      rcases List.mem_append.1 ho with ho | ho
      · have := ih L0 (by omega) hL o ho
        omega
      · have h1 := (rowS_in h (by omega) (by omega) hl).2 _ (rowObs_mem ho).1
        have := row_mul h.ok (r := (n : Int)) (by omega) (by omega)
        omega
    · cases e
end
/-- The map of objects has one more. -/
theorem AllAt.put {w' : World} {base mb : Nat} {L : List Ob} {ents : List (Int × Value)} {o : Ob} {v : Value} (hb : base ≤ mb) (h2 : All2 (fun (e : Int × Value) (o : Ob) => e.1 = o.at_ + 1 ∧ EntAt w' base o e.2) ents L) (hM : MapG (kvI .u64) w' mb (putM ents (o.at_ + 1) v))
    (hn : o.at_ + 1 ∉ Ks L) (hv : EntAt w' base o v) : AllAt w' base mb (L ++ [o]) := by
  have hi : idxM ents (o.at_ + 1) = none := by
    cases hh : idxM ents (o.at_ + 1) with
    | none => rfl
    | some i =>
      obtain ⟨u, hu, hg⟩ := idx_some hh
      exact absurd (List.mem_map.2 ⟨_, List.mem_of_getElem? hu, rfl⟩) (by rw [all2_keys h2]; exact hn)
  unfold putM at hM
  rw [hi] at hM
  refine ⟨hb, _, hM, ?_⟩
  clear hM hi hn
  induction h2 with
  | nil => exact .cons ⟨rfl, hv⟩ .nil
  | cons h1 _ ih => exact .cons h1 ih
theorem EntAt.keepM {w w' : World} {base mb : Nat} {o : Ob} {v : Value} {ents : List (Int × Value)} (h : EntAt w base o v) (hM : MapG (kvI .u64) w mb ents) (f : Fr (· = mb) w w') : EntAt w' base o v := by
  obtain ⟨es, ck, hMA, _⟩ := hM
  obtain ⟨rv, dv, hv, h1, h2⟩ := h
  have ne : ∀ {te : Nat} {u : Value} {l : List Int}, OwnU w base te u l → ∀ k, u.ownBlock = some k → ¬ k = mb := fun ho k hk e => by
    obtain ⟨cur, hb, _⟩ := own_blk ho k hk
    exact blk_map hb hMA e
  exact ⟨rv, dv, hv, h1.keep f (ne h1), h2.keep f (ne h2)⟩
theorem all2_keepM {w w' : World} {base mb : Nat} {ents ents' : List (Int × Value)} {L : List Ob} (h : All2 (fun (e : Int × Value) (o : Ob) => e.1 = o.at_ + 1 ∧ EntAt w base o e.2) ents L) (hM : MapG (kvI .u64) w mb ents') (f : Fr (· = mb) w w') :
    All2 (fun (e : Int × Value) (o : Ob) => e.1 = o.at_ + 1 ∧ EntAt w' base o e.2) ents L := by
  induction h with
  | nil => exact .nil
  | cons h1 _ ih => exact .cons ⟨h1.1, h1.2.keepM hM f⟩ ih
theorem iter_blk {w : World} {κ : Type} {kv : κ → Value} {b it k t : Nat} {m left : List (κ × Value)} {cur : Option (κ × Value)} {cs : List Value} (hI : IterG kv w b it m left cur) (h : Blk w k t cs) : k ≠ it := by
  intro e
  subst e
  obtain ⟨_, es, clock, since, seen, c0, _, _, _, _, _, _, h7, _⟩ := hI
  unfold Blk at h
  rw [h] at h7
  injection h7 with h7
  cases h7
theorem all2_keepI {w w' : World} {base b it : Nat} {ents ents' left : List (Int × Value)} {cur : Option (Int × Value)} {L : List Ob} (h : All2 (fun (e : Int × Value) (o : Ob) => e.1 = o.at_ + 1 ∧ EntAt w base o e.2) ents L) (hI : IterG (kvI .u64) w b it ents' left cur) (f : Fr (· = it) w w') :
    All2 (fun (e : Int × Value) (o : Ob) => e.1 = o.at_ + 1 ∧ EntAt w' base o e.2) ents L := by
  have ne : ∀ {te : Nat} {u : Value} {l : List Int}, OwnU w base te u l → ∀ k, u.ownBlock = some k → ¬ k = it := fun ho k hk e => by
    obtain ⟨cur, hb, _⟩ := own_blk ho k hk
    exact iter_blk hI hb e
  induction h with
  | nil => exact .nil
  | cons h1 _ ih =>
    obtain ⟨e1, rv, dv, hv, h1, h2⟩ := h1
    exact .cons ⟨e1, rv, dv, hv, h1.keep f (ne h1), h2.keep f (ne h2)⟩ ih
theorem AllAt.mlt {w : World} {base mb : Nat} {L : List Ob} (h : AllAt w base mb L) : mb < w.heap.size := by obtain ⟨_, _, hM, _⟩ := h; exact hM.lt
set_option maxHeartbeats 2000000 in
theorem objects_spec {c : Cfg} {p : HP} {hb : Nat} {z : Nat → Nat} {s : HS} {ar : Nat} (w : World) (H : HA w z c hb p s ar) :
    CallC Pr f_heap_Heap_objects [ptr hb] w (fun v w' => (∃ q, HA w' z c hb p (s.setAcc q) ar) ∧ Fr (· = p.ab) w w' ∧
      match okS c s with
      | some L => ∃ mb, v = .tuple #[.map (some mb), .int .i64 0] ∧ AllAt w' w.heap.size mb L
      | none => v = .tuple #[.map none, .int .i64 30]) := by
  have h := H.h
  have hp := P_le h.ok
  have r1 := h.ok.r1
  have r0 := h.ok.r0
  have hbsl := h.bsl
  have c3 := h.c3
  obtain ⟨rra, rrc, er, hT⟩ := h.cells
  have hal := H.a.lt
  have nab : hb ≠ p.ab := fun e => by have := h.tabz; rw [e, H.zb] at this; cases this
  refine callU_sound T_ok fun_heap_Heap_objects rfl (by kernel_rfl) rfl (Kp ?_)
  refine NewC_map (fun mb w1 hmb m1 f1 z1 => ?_)
  refine NewC_blk (fun t4 w2 e_t4 b2 f2 z2 => ?_)
  refine StC_blk (b2) rfl rfl (fun w3 b3 f3 z3 => ?_)
  have b3 : Blk w3 t4 t_map_api_Ref_heap_object [.map (some mb)] := b3
  have m3 : MapG (kvI .u64) w3 mb [] := MapG.new ((m1.keep f2 id).keep f3 (by omega))
  have F3 : Fr No w w3 := (f1.no f2).new f3 (fun _ _ e => e) (fun k e => by have e : k = t4 := e; omega)
  have H3 := H.no F3
  have z3' := F3.size
  refine Cut (α := Unit) (fun _ => [(0, ptr hb), (4, .pointer (some ⟨t4, 0, none⟩))]) (fun _ w4 => ∃ q L, HA w4 z c hb p (s.setAcc q) ar ∧ Fr (· = p.ab) w w4 ∧ Blk w4 t4 t_map_api_Ref_heap_object [.map (some mb)] ∧ AllAt w4 w.heap.size mb L ∧ objsS c s = some L) ?_ (fun _ w4 hJ => Kp ?_)
  · -- all rows
    refine LdC_blk (hT.keep F3 id) rfl ?_
    refine LoopC_intro (α := Int) (fun r => [(0, ptr hb), (4, .pointer (some ⟨t4, 0, none⟩)), (22, .int .i64 c.c1), (23, .int .i64 r)])
      (fun m r w4 => ∃ q L, HA w4 z c hb p (s.setAcc q) ar ∧ Fr (· = p.ab) w w4 ∧ Blk w4 t4 t_map_api_Ref_heap_object [.map (some mb)] ∧ AllAt w4 w.heap.size mb L ∧ objsF c s r.toNat = some L ∧ 0 ≤ r ∧ r ≤ c.c1 ∧ m = (c.c1 - r).toNat)
      (c.c1 - 0).toNat 0 ⟨rfl, rfl, rfl, rfl, trivial⟩ ⟨s.acc, [], H3, F3.weak (fun _ _ e => e.elim), b3, ⟨by omega, [], m3, .nil⟩, rfl, Int.le_refl _, (show (0 : Int) ≤ c.c1 by omega), rfl⟩ (fun m r w4 hJ => Kp ?_)
    obtain ⟨q, L, H4, F4, b4, A4, hL, r0', r1', hm⟩ := hJ
    have r0' : 0 ≤ r := r0'
    have r1' : r ≤ c.c1 := r1'
    have hm : m = (c.c1 - r).toNat := hm
    refine Cut_no ?_
    refine Br_dec (fun g => ?_) (fun g => ?_)
    rotate_left
    · have g : ¬ r < c.c1 := g
      rw [show r = c.c1 by omega] at hL
      exact ⟨(), ⟨rfl, rfl, trivial⟩, q, L, H4, F4, b4, A4, hL⟩
    have g : r < c.c1 := g
    have hlt := objsF_lt h r.toNat L (by omega) hL
    rw [Int.toNat_of_nonneg r0'] at hlt
    refine Cut_no ?_
    refine CallC_intro (Row_spec r w4 H4 ⟨r0', g⟩) (fun v w5 ⟨⟨q5, H5⟩, f5, hv⟩ => ?_)
    have eR : rowS c (s.setAcc q) r = rowS c s r := rfl
    rw [eR] at hv
    have F5 := F4.same f5
    have z4 := F4.size
    have n4 : t4 ≠ p.ab := by omega
    have b5 := b4.keep f5 n4
    have A5 := A4.keep f5 (fun k hk _ e => by have e : k = p.ab := e; omega)
    cases hrow : rowS c s r with
    | none =>
      rw [hrow] at hv
      have hv : v = .tuple #[.slice none 0 0, .int .i64 30] := hv
      subst hv
      refine Cut_no ?_
      refine ⟨⟨_, H5⟩, F5, ?_⟩
      have : okS c s = none := by
        unfold okS objsS
        rw [objsF_none (k := r.toNat) (by rw [Int.toNat_of_nonneg r0']; exact hrow) c.c1.toNat (by omega)]
      rw [this]
      rfl
    | some l =>
      rw [hrow] at hv
      obtain ⟨lv, hv, own⟩ := hv
      subst hv
      have hin := rowS_in h r0' g hrow
      have hnext : objsF c s (r + 1).toNat = some (L ++ rowObs s.ws l) := by
        rw [show (r + 1).toNat = r.toNat + 1 by omega]
        unfold objsF
        rw [hL, show ((r.toNat : Nat) : Int) = r by omega, hrow]
      obtain ⟨la, lc, elv⟩ := own_slice own
      have hll : l.length ≤ 4194304 := by
        have h1 : l.Nodup := hin.1.imp fun e => by omega
        have h2 : ∀ a ∈ l, a ∈ (List.range 4194304).map (fun (k : Nat) => r * P c + (k : Int)) := fun a ha => by
          obtain ⟨q1, q2, _⟩ := hin.2 a ha
          exact List.mem_map.2 ⟨(a - r * P c).toNat, List.mem_range.2 (by omega), by omega⟩
        have := sub_len h1 h2
        rw [List.length_map, List.length_range] at this
        exact this
      rw [elv]
      refine Cut_no ?_
      refine LoopC_intro (α := Int) (fun i => [(0, ptr hb), (4, .pointer (some ⟨t4, 0, none⟩)), (22, .int .i64 c.c1), (23, .int .i64 r), (35, .slice la l.length lc), (36, .int .i64 l.length), (37, .int .i64 i)])
        (fun m i w6 => ∃ q, HA w6 z c hb p (s.setAcc q) ar ∧ Fr (· = p.ab) w w6 ∧ Blk w6 t4 t_map_api_Ref_heap_object [.map (some mb)] ∧ Own w6 w4.heap.size lv l ∧ AllAt w6 w.heap.size mb (L ++ rowObs s.ws (l.take i.toNat)) ∧ 0 ≤ i ∧ i ≤ l.length ∧ m = (l.length - i).toNat)
        l.length 0 ⟨rfl, rfl, rfl, rfl, rfl, rfl, rfl, trivial⟩ ⟨q5, H5, F5, b5, own, by simpa [rowObs] using A5, Int.le_refl _, (show (0 : Int) ≤ l.length by omega), (show l.length = ((l.length : Int) - 0).toNat by omega)⟩ (fun m6 i w6 hJ => Kp ?_)
      obtain ⟨q6, H6, F6, b6, own6, A6, i0, i1, hm6⟩ := hJ
      have i0 : 0 ≤ i := i0
      have i1 : i ≤ l.length := i1
      have hm6 : m6 = (l.length - i).toNat := hm6
      refine Cut_no ?_
      refine Br_dec (fun g1 => ?_) (fun g1 => ?_)
      rotate_left
      · have g1 : ¬ i < (l.length : Int) := g1
        have A6 : AllAt w6 w.heap.size mb (L ++ rowObs s.ws (l.take i.toNat)) := A6
        rw [List.take_of_length_le (by omega)] at A6
        refine ⟨(c.c1 - (r + 1)).toNat, _, by omega, ?_, r + 1, rfl, q6, _, H6, F6, b6, A6, hnext, (show 0 ≤ r + 1 by omega), (show r + 1 ≤ c.c1 by omega), rfl⟩
        exact ⟨rfl, rfl, rfl, look_int rfl (wrap_i64 (by omega) (by omega)), trivial⟩
      have g1 : i < (l.length : Int) := g1
      have hil : i.toNat < l.length := by omega
      obtain ⟨a, ea⟩ : ∃ a, a = l[i.toNat]'hil := ⟨_, rfl⟩
      have hga : l[i.toNat]? = some a := by rw [List.getElem?_eq_getElem hil, ea]
      obtain ⟨a0, a1, hd, hh, hk3, hsz⟩ := hin.2 a (List.mem_of_getElem? hga)
      have ho := hdr_ok hh
      have hwl := h.wsl
      rw [elv] at own6
      obtain ⟨ad, ead, hcell⟩ := own6.ints.cell hil
      subst ead
      rw [← ea] at hcell
      have A6 : AllAt w6 w.heap.size mb (L ++ rowObs s.ws (l.take i.toNat)) := A6
      have etake : rowObs s.ws (l.take (i + 1).toNat) = rowObs s.ws (l.take i.toNat) ++ rowObs s.ws [a] := by
        rw [show (i + 1).toNat = i.toNat + 1 by omega, List.take_add_one, hga]
        exact rowObs_snoc _ _ _
      have ew : IntKind.i64.wrap (i + 1) = i + 1 := wrap_i64 (by omega) (by omega)
      refine Cut_no ?_
      refine Sd_intro ((show 0 ≤ i ∧ i < (l.length : Int) from ⟨i0, g1⟩)) ?_
      refine LdC_intro (v := .int .i64 a) (by rw [Nat.mul_one]; exact hcell) ?_
      refine LdC_blk (hT.keep F6 nab) rfl ?_
      refine CallC_intro (At_spec a w6 H6.a (by omega)) (fun v w7 ⟨hv, hA7, f7⟩ => ?_)
      have eat : (atS (s.setAcc q6).ws a) = (hd, 0) := by
        show atS s.ws a = _
        unfold atS
        rw [if_pos ho.1, hh]
      rw [eat] at hv
      subst hv
      have F7 := F6.same f7
      have H7 := H.aft F7 hA7
      have A7 := A6.keep f7 (fun k hk _ e => by have e : k = p.ab := e; omega)
      have b7 := b6.keep f7 n4
      have own7 := own6.keep f7 (fun k hk e => by have e : k = p.ab := e; have := F4.size; omega)
      have zz4 := F4.size
      refine NewC_blk (fun y w8 e_y b8 f8 z8 => ?_)
      refine StN_blk (b8) rfl (Nat.le_of_ble_eq_true rfl) (fun w9 b9 f9 z9 => ?_)
      have b9 : Blk w9 y t_api_Header hd.L := b9
      have f79 : Fr No w7 w9 := f8.new f9 (fun _ _ e => e) (fun k e => by omega)
      obtain ⟨H9, F9⟩ := H.new H7 F7 f79 (fun k e => e.elim)
      have A9 := A7.keep f79 (fun _ _ _ => id)
      have b9' := b7.keep f79 id
      have own9 := own7.keep f79 (fun _ _ => id)
      refine LdC_blk (b9) rfl ?_
      refine Br_dec (fun g2 => ?_) (fun g2 => ?_)
      rotate_left
      · have g2 : ¬ hd.kind = 1 := g2
        refine ⟨(l.length - (i + 1)).toNat, _, by omega, ?_, i + 1, rfl, _, H9, F9, b9', by rw [elv]; exact own9, ?_, (show 0 ≤ i + 1 by omega), (show i + 1 ≤ (l.length : Int) by omega), rfl⟩
        · exact ⟨rfl, rfl, rfl, rfl, rfl, rfl, look_int rfl ew, trivial⟩
        · rw [etake]
          have : rowObs s.ws [a] = [] := by unfold rowObs; simp [hh, g2]
          rw [this, List.append_nil]; exact A9
      have g2 : hd.kind = 1 := g2
      have eob : rowObs s.ws [a] = [obOf s.ws a hd] := by unfold rowObs; simp [hh, g2]
      have hnew : (obOf s.ws a hd).at_ + 1 ∉ Ks (L ++ rowObs s.ws (l.take i.toNat)) := by
        intro hmem
        obtain ⟨o, hom, eo⟩ := List.mem_map.1 hmem
        have eo : o.at_ + 1 = a + 1 := eo
        rcases List.mem_append.1 hom with hom | hom
        · have := hlt o hom; omega
        · have hom := (rowObs_mem hom).1
          obtain ⟨j, hj, ej⟩ := List.getElem_of_mem hom
          rw [List.length_take] at hj
          rw [List.getElem_take] at ej
          have := List.pairwise_iff_getElem.1 hin.1 j i.toNat (by omega) hil (by omega)
          rw [← ea] at this
          omega
      have e1 : IntKind.u64.wrap (IntKind.i64.wrap (a + 1)) = a + 1 := by rw [wrap_i64 (by omega) (by omega), wrap_u64 (by omega) (by omega)]
      refine AnyC_plan T_ok mixed (planO [0,1,2,3,4,5,6,1007,1008]) ((fun w' => Blk w' t4 t_map_api_Ref_heap_object [.map (some mb)] ∧ Blk w' y t_api_Header hd.L)) (by kernel_rfl) (by kernel_rfl) (⟨b9'.keep (Fr.drew _) id, b9.keep (Fr.drew _) id⟩) (Kp ?_)
      refine LdS_of (fun w' hw => hw.1) rfl ?_
      refine LdSN_of (vs := hd.L) (fun w' hw => hw.2) rfl rfl ?_
      refine ⟨?_, trivial⟩
      obtain ⟨H9d, F9d⟩ := H.new H9 F9 (Fr.drew w9) (fun k e => e.elim)
      refine CallC_intro (read_spec a hd w9.drew H9d (by omega) (by omega) hsz (by omega) (by omega)) (fun v w10 ⟨⟨q10, H10⟩, f10, hE⟩ => ?_)
      have F10 := F9d.same f10
      have zd : w9.drew.heap.size = w9.heap.size := rfl
      have z9' := F9.size
      have b10 := (b9'.keep (Fr.drew w9) id).keep f10 n4
      have y10 : Blk w10 y t_api_Header hd.L := (b9.keep (Fr.drew w9) id).keep f10 (fun e => by have e : y = p.ab := e; have := F7.size; omega)
      have A10 := (A9.keep (Fr.drew w9) (fun _ _ _ => id)).keep f10 (fun k hk _ e => by have e : k = p.ab := e; omega)
      have own10 := (own9.keep (Fr.drew w9) (fun _ _ => id)).keep f10 (fun k hk e => by have e : k = p.ab := e; omega)
      refine Sd_intro (⟨b10, y10⟩) ?_
      refine ⟨?_, trivial⟩
      obtain ⟨hmb', ents, hM, h2⟩ := A10
      refine UpdC T_ok (kv := kvI .u64) rfl keyU hM (IntKind.u64.wrap (IntKind.i64.wrap (a + 1))) v (fun w11 hM11 f11 z11 => ?_)
      rw [e1] at hM11
      have hl10 := hM.lt
      have nm4 : mb ≠ t4 := by omega
      have nmy : mb ≠ y := by
        obtain ⟨_, _, hM7, _⟩ := A7
        have := hM7.lt
        omega
      refine Sd_intro (⟨b10.keep f11 (fun e => nm4 e.symm), y10.keep f11 (fun e => nmy e.symm)⟩) ?_
      obtain ⟨H11, F11⟩ := H.new H10 F10 f11 (fun k e => by have e : k = mb := e; omega)
      have h2' := all2_keepM h2 hM f11
      have hE' : EntAt w11 w.heap.size (obOf s.ws a hd) v := (hE.keepM hM f11).low (by omega)
      have A11 := AllAt.put hmb' h2' hM11 hnew hE'
      refine ⟨(l.length - (i + 1)).toNat, _, by omega, ?_, i + 1, rfl, _, H11, F11, b10.keep f11 (fun e => nm4 e.symm), by rw [elv]; exact own10.keep f11 (fun k hk e => by have e : k = mb := e; have := A4.mlt; omega), ?_, (show 0 ≤ i + 1 by omega), (show i + 1 ≤ (l.length : Int) by omega), rfl⟩
      · exact ⟨rfl, rfl, rfl, rfl, rfl, rfl, look_int rfl ew, trivial⟩
      · rw [etake, eob, ← List.append_assoc]; exact A11
  -- what is known
  obtain ⟨q4, L, H4, F4, b4, A4, hobj⟩ := hJ
  have n4 : t4 ≠ p.ab := by omega
  have z4 := F4.size
  obtain ⟨hmb4, ents, hM4, h24⟩ := id A4
  have bad : ∀ {w' : World} {q : Int}, HA w' z c hb p (s.setAcc q) ar → Fr (· = p.ab) w w' → ((∃ o ∈ L, knownB L o.refs = false) ∨ (∃ l ∈ s.refs, knownB L l = false)) → (∃ q, HA w' z c hb p (s.setAcc q) ar) ∧ Fr (· = p.ab) w w' ∧
      match okS c s with
      | some L => ∃ mb, Value.tuple #[.map none, .int .i64 30] = .tuple #[.map (some mb), .int .i64 0] ∧ AllAt w' w.heap.size mb L
      | none => Value.tuple #[.map none, .int .i64 30] = .tuple #[.map none, .int .i64 30] := fun H' F' e => by
    refine ⟨⟨_, H'⟩, F', ?_⟩
    have : okS c s = none := by
      unfold okS
      rw [hobj]
      dsimp only
      refine if_neg fun hh => ?_
      rcases e with ⟨o, ho, e⟩ | ⟨l, hl, e⟩
      · have := hh.1 o ho; rw [e] at this; cases this
      · have := hh.2 l hl; rw [e] at this; cases this
    rw [this]
  refine Cut (α := Unit) (fun _ => [(0, ptr hb), (4, .pointer (some ⟨t4, 0, none⟩)), (12, .func (.func f_heap_Heap_objects_1) #[] #[.pointer (some ⟨t4, 0, none⟩)])]) (fun _ w5 => (∃ q, HA w5 z c hb p (s.setAcc q) ar) ∧ Fr (· = p.ab) w w5 ∧ Blk w5 t4 t_map_api_Ref_heap_object [.map (some mb)] ∧ AllAt w5 w.heap.size mb L ∧ ∀ o ∈ L, knownB L o.refs = true) ?_ (fun _ w5 hJ => Kp ?_)
  · refine LdC_blk (b4) rfl ?_
    refine RangeC T_ok rfl hM4 (fun it w5 hit hI5 f5 s5 => ?_)
    obtain ⟨H5, F5⟩ := H.new H4 F4 f5 (fun k e => e.elim)
    refine LoopC_intro (α := Unit) (fun _ => [(0, ptr hb), (4, .pointer (some ⟨t4, 0, none⟩)), (12, .func (.func f_heap_Heap_objects_1) #[] #[.pointer (some ⟨t4, 0, none⟩)]), (65, .pointer (some ⟨it, 0, none⟩))])
      (fun m _ w6 => (∃ q, HA w6 z c hb p (s.setAcc q) ar) ∧ Fr (· = p.ab) w w6 ∧ Blk w6 t4 t_map_api_Ref_heap_object [.map (some mb)] ∧ (∃ left cur, IterG (kvI .u64) w6 mb it ents left cur ∧ m = left.length ∧ ∀ o ∈ L, knownB L o.refs = true ∨ o.at_ + 1 ∈ left.map (·.1)) ∧ All2 (fun (e : Int × Value) (o : Ob) => e.1 = o.at_ + 1 ∧ EntAt w6 w.heap.size o e.2) ents L)
      ents.length () ⟨rfl, rfl, rfl, rfl, trivial⟩ ⟨⟨_, H5⟩, F5, b4.keep f5 id, ⟨ents, none, hI5, rfl, fun o ho => .inr (by rw [all2_keys h24]; exact List.mem_map.2 ⟨o, ho, rfl⟩)⟩, all2_keep h24 f5 (fun _ _ _ => id)⟩ (fun m _ w6 hJ => Kp ?_)
    obtain ⟨⟨q6, H6⟩, F6, b6, ⟨left, cur, hI6, hm6, hk6⟩, h26⟩ := hJ
    have zz6 := F6.size
    have A6 : AllAt w6 w.heap.size mb L := ⟨hmb4, ents, hI6.map, h26⟩
    refine NextC kvI_inj hI6 (fun hl0 => ?_) (fun x hx w7 hI7 f7 s7 => ?_)
    · refine Cut_no ?_
      refine ⟨(), ⟨rfl, rfl, rfl, trivial⟩, ⟨_, H6⟩, F6, b6, A6, fun o ho => ?_⟩
      rcases hk6 o ho with e | e
      · exact e
      · rw [hl0] at e; cases e
    · have itg : w.heap.size ≤ it := by omega
      obtain ⟨H7, F7⟩ := H.new H6 F6 f7 (fun k e => by have e : k = it := e; omega)
      have n7 : t4 ≠ it := by
        have := b4.lt
        omega
      have b7 := b6.keep f7 n7
      have h27 := all2_keepI h26 hI6 f7
      have A7 : AllAt w7 w.heap.size mb L := ⟨hmb4, ents, hI7.map, h27⟩
      obtain ⟨k, v⟩ := x
      obtain ⟨o, ho, hxo, rv, dv, hv, orv, odv⟩ := all2_mem h27 ((iter_sub hI6).subset hx)
      have hv : v = .agg #[.int .i64 o.at_, rv, dv] := hv
      have hxo : k = o.at_ + 1 := hxo
      obtain ⟨a1, c1, e1⟩ := own_slice orv
      obtain ⟨a2, c2, e2⟩ := own_slice odv
      subst hv
      subst e1
      subst e2
      have ltd : (delM left k).length < left.length := List.length_filter_lt_length_iff_exists.2 ⟨_, hx, by simp⟩
      refine Cut_no ?_
      refine EntryC hI7 ?_
      refine NewC_blk (fun y w8 e_y b8 f8 z8 => ?_)
      refine StN_blk (b8) rfl (Nat.le_of_ble_eq_true rfl) (fun w9 b9 f9 z9 => ?_)
      have b9 : Blk w9 y t_heap_object [.int .i64 o.at_, .slice a1 o.refs.length c1, .slice a2 o.data.length c2] := b9
      have f79 : Fr No w7 w9 := f8.new f9 (fun _ _ e => e) (fun k e => by omega)
      obtain ⟨H9, F9⟩ := H.new H7 F7 f79 (fun k e => e.elim)
      refine LdC_blk (b9) rfl ?_
      have hrl : o.refs.length ≤ 4194304 := objsF_len hobj o ho
      refine CallC_intro (objects1_spec w9 (A7.keep f79 (fun _ _ _ => id)) (b7.keep f79 id) (orv.keep f79 (fun _ _ => id)) hrl) (fun v w10 ⟨hv, f10⟩ => ?_)
      subst hv
      obtain ⟨H10, F10⟩ := H.new H9 F9 f10 (fun k e => e.elim)
      cases hk : knownB L o.refs with
      | false => exact bad H10 F10 (.inl ⟨o, ho, hk⟩)
      | true =>
        have f710 := f79.no f10
        refine ⟨_, _, (by rw [hm6]; exact ltd), ?_, (), rfl, ⟨_, H10⟩, F10, b7.keep f710 id, ⟨_, _, hI7.keep f710 id id, rfl, fun o' ho' => ?_⟩, all2_keep h27 f710 (fun _ _ _ => id)⟩
        · exact ⟨rfl, rfl, rfl, rfl, trivial⟩
        · by_cases e : o'.at_ + 1 = k
          · left
            have nd := A4.nodup
            have : o' = o := by
              have hinj : ∀ (L : List Ob), (Ks L).Nodup → ∀ x ∈ L, ∀ y ∈ L, x.at_ + 1 = y.at_ + 1 → x = y := by
                intro L
                induction L with
                | nil => intro _ x hx; cases hx
                | cons b L ih =>
                  intro nd x hx y hy exy
                  unfold Ks at nd
                  rw [List.map_cons, List.nodup_cons] at nd
                  rcases List.mem_cons.1 hx with hx1 | hx1
                  · rcases List.mem_cons.1 hy with hy1 | hy1
                    · rw [hx1, hy1]
                    · exact absurd (List.mem_map.2 ⟨y, hy1, by rw [← exy, hx1]⟩) nd.1
                  · rcases List.mem_cons.1 hy with hy1 | hy1
                    · exact absurd (List.mem_map.2 ⟨x, hx1, by rw [exy, hy1]⟩) nd.1
                    · exact ih nd.2 x hx1 y hy1 exy
              exact hinj L nd o' ho' o ho (e.trans hxo)
            rw [this]; exact hk
          · rcases hk6 o' ho' with e2 | e2
            · exact .inl e2
            · right
              obtain ⟨u, hu, eu⟩ := List.mem_map.1 e2
              exact List.mem_map.2 ⟨u, List.mem_filter.2 ⟨hu, by rw [eu]; simpa using e⟩, eu⟩
  -- the handles
  obtain ⟨⟨q5, H5⟩, F5, b5, A5, hk5⟩ := hJ
  have n45 := n4
  refine Cut_no ?_
  refine LdC_blk (hT.keep F5 nab) rfl ?_
  refine LoopC_intro (α := Int) (fun i => [(0, ptr hb), (4, .pointer (some ⟨t4, 0, none⟩)), (12, .func (.func f_heap_Heap_objects_1) #[] #[.pointer (some ⟨t4, 0, none⟩)]), (78, .slice rra p.bs.length rrc), (79, .int .i64 p.bs.length), (80, .int .i64 i)])
    (fun m i w6 => (∃ q, HA w6 z c hb p (s.setAcc q) ar) ∧ Fr (· = p.ab) w w6 ∧ Blk w6 t4 t_map_api_Ref_heap_object [.map (some mb)] ∧ AllAt w6 w.heap.size mb L ∧ 0 ≤ i ∧ i ≤ p.bs.length ∧ (∀ j l, j < i.toNat → s.refs[j]? = some l → knownB L l = true) ∧ m = (p.bs.length - i).toNat)
    p.bs.length 0 ⟨rfl, rfl, rfl, rfl, rfl, rfl, trivial⟩ ⟨⟨_, H5⟩, F5, b5, A5, Int.le_refl _, (show (0 : Int) ≤ p.bs.length by omega), (fun j l hj => by cases hj), (show p.bs.length = ((p.bs.length : Int) - 0).toNat by omega)⟩ (fun m i w6 hJ => Kp ?_)
  obtain ⟨⟨q6, H6⟩, F6, b6, A6, i0, i1, hk6, hm6⟩ := hJ
  have i0 : 0 ≤ i := i0
  have i1 : i ≤ (p.bs.length : Int) := i1
  have hm6 : m = (p.bs.length - i).toNat := hm6
  refine Cut_no ?_
  refine Br_dec (fun g => ?_) (fun g => ?_)
  rotate_left
  · have g : ¬ i < (p.bs.length : Int) := g
    have hok : okS c s = some L := by
      unfold okS
      rw [hobj]
      dsimp only
      refine if_pos ⟨hk5, fun l hl => ?_⟩
      obtain ⟨j, hj, ej⟩ := List.getElem_of_mem hl
      exact hk6 j l (by have := h.refl; omega) (by rw [List.getElem?_eq_getElem hj, ej])
    refine LdC_blk (b6) rfl ?_
    refine ⟨⟨_, H6⟩, F6, ?_⟩
    rw [hok]
    exact ⟨mb, rfl, A6⟩
  have g : i < (p.bs.length : Int) := g
  have hrl := h.refl
  obtain ⟨gr, cap, cur, b, hvr, hgr, hcr, hbr⟩ := H6.h.root i0 g
  rw [er] at hvr
  injection hvr with e1 e2 e3
  subst e1
  obtain ⟨l, hlr⟩ : ∃ l, s.refs[i.toNat]? = some l := ⟨_, List.getElem?_eq_getElem (by omega)⟩
  obtain ⟨sv, hS, _, _⟩ := H6.h.stacks _ b l hbr hlr
  have hln := hS.n0
  have hlb := hS.b0
  refine Cut_no ?_
  refine Sd_intro ((show 0 ≤ i ∧ i < (p.bs.length : Int) from ⟨i0, g⟩)) ?_
  refine LdC_idx hgr hcr ?_
  refine CallC_intro (roots_List_spec w6 hS) (fun v w7 ⟨own7, f7⟩ => ?_)
  obtain ⟨a7, c7, e7⟩ := own_slice own7
  subst e7
  obtain ⟨H7, F7⟩ := H.new H6 F6 f7 (fun k e => e.elim)
  refine CallC_intro (objects1_spec w7 (A6.keep f7 (fun _ _ _ => id)) (b6.keep f7 id) own7 (by omega)) (fun v w8 ⟨hv, f8⟩ => ?_)
  subst hv
  obtain ⟨H8, F8⟩ := H.new H7 F7 f8 (fun k e => e.elim)
  have f68 := f7.no f8
  cases hk : knownB L l with
  | false => exact bad H8 F8 (.inr ⟨l, List.mem_of_getElem? hlr, hk⟩)
  | true =>
    refine ⟨(p.bs.length - (i + 1)).toNat, _, by omega, ?_, i + 1, rfl, ⟨_, H8⟩, F8, b6.keep f68 id, A6.keep f68 (fun _ _ _ => id), (show 0 ≤ i + 1 by omega), (show i + 1 ≤ (p.bs.length : Int) by omega), (fun j l' hj hl' => ?_), rfl⟩
    · exact ⟨rfl, rfl, rfl, rfl, rfl, look_int rfl (wrap_i64 (by omega) (by omega)), trivial⟩
    · by_cases e : j = i.toNat
      · subst e
        rw [hlr] at hl'
        injection hl' with hl'
        subst hl'
        exact hk
      · exact hk6 j l' (by omega) hl'
end Go.Proofs.YtdhbpklmkibmbaaGreat
