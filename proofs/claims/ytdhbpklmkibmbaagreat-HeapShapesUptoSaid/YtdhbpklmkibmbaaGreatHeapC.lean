/- Layer 14 (heap): geometry, regions and rows of a heap. -/
import Derived.Test.YtdhbpklmkibmbaaGreatHSpec
import Derived.Test.YtdhbpklmkibmbaaGreatHeap5
import Derived.Test.YtdhbpklmkibmbaaGreatHeap1
namespace Go.Proofs.YtdhbpklmkibmbaaGreat
open Go.Vc

abbrev geoA (c : Cfg) : Value := .agg (geoC c).toArray
def regC (c : Cfg) (n : Int) : Int := if n < 0 ∨ c.c1 * P c ≤ n then -1 else n / P c
def cardC (c : Cfg) (n : Int) : Int := if n < 0 ∨ c.c1 * P c ≤ n then -1 else n / Q c
def spanC (c : Cfg) (n : Int) : Int := if n < 1 then 0 else (n - 1) / P c + 1
def bigC (c : Cfg) (n : Int) : Bool := decide (n > P c / 2)
theorem Valid.k0 {c : Cfg} (h : Valid c) : c.c0.toNat ≤ 20 := by have := h.s1; omega
theorem Valid.k2 {c : Cfg} (h : Valid c) : c.c2.toNat ≤ 20 := by have := h.s1; have := h.cs; omega
theorem QP_dvd {c : Cfg} (h : Valid c) : P c % Q c = 0 := by
  have := h.cs
  unfold P Q
  rw [show c.c0.toNat = (c.c0.toNat - c.c2.toNat) + c.c2.toNat by omega, Int.pow_add]
  exact Int.mul_emod_left _ _
theorem cards_mul {c : Cfg} (h : Valid c) : c.c1 * P c / Q c * Q c = c.c1 * P c := by
  have h1 := QP_dvd h
  have h2 : (c.c1 * P c) % Q c = 0 := by rw [Int.mul_emod, h1]; simp
  have := Int.mul_ediv_add_emod (c.c1 * P c) (Q c)
  rw [h2, Int.mul_comm] at this
  omega
theorem Region_C {c : Cfg} (hV : Valid c) (n : Int) (w : World) : CallC Pr f_geom_Geom_Region [geoA c, .int .i64 n] w (fun v w' => v = .int .i64 (regC c n) ∧ Fr No w w') :=
  Region_spec (c.c1 * P c) (Q c) c.c1 (c.c1 * P c / Q c) (min 1048576 (c.c1 * P c - P c)) n c.c0.toNat hV.k0 w
theorem Card_C {c : Cfg} (hV : Valid c) (n : Int) (w : World) : CallC Pr f_geom_Geom_Card [geoA c, .int .i64 n] w (fun v w' => v = .int .i64 (cardC c n) ∧ Fr No w w') :=
  Card_spec (c.c1 * P c) (P c) c.c1 (c.c1 * P c / Q c) (min 1048576 (c.c1 * P c - P c)) n c.c2.toNat hV.k2 w
theorem Span_C {c : Cfg} (hV : Valid c) (n : Int) (w : World) (h0 : 0 ≤ n) (h1 : n ≤ 4194304) : CallC Pr f_geom_Geom_Span [geoA c, .int .i64 n] w (fun v w' => v = .int .i64 (spanC c n) ∧ Fr No w w') :=
  Span_spec (c.c1 * P c) (Q c) c.c1 (c.c1 * P c / Q c) (min 1048576 (c.c1 * P c - P c)) n c.c0.toNat hV.k0 h0 h1 w
theorem Big_C {c : Cfg} (n : Int) (w : World) : CallC Pr f_geom_Geom_Big [geoA c, .int .i64 n] w (fun v w' => v = .bool (bigC c n) ∧ Fr No w w') :=
  Big_spec (c.c1 * P c) (P c) (Q c) c.c1 (c.c1 * P c / Q c) (min 1048576 (c.c1 * P c - P c)) n w
theorem Base_C {c : Cfg} (hV : Valid c) (n : Int) (w : World) : CallC Pr f_geom_Geom_Base [geoA c, .int .i64 n] w (fun v w' => v = (if n < 0 ∨ c.c1 ≤ n then .tuple #[.int .i64 0, .int .i64 2] else .tuple #[.int .i64 (n * P c), .int .i64 0]) ∧ Fr No w w') :=
  Base_spec (c.c1 * P c) (Q c) c.c1 (c.c1 * P c / Q c) (min 1048576 (c.c1 * P c - P c)) n c.c0.toNat hV.k0 (P_le hV).2.2.2.2.2 w
theorem First_C {c : Cfg} (hV : Valid c) (n : Int) (w : World) : CallC Pr f_geom_Geom_First [geoA c, .int .i64 n] w (fun v w' => v = (if n < 0 ∨ c.c1 * P c / Q c ≤ n then .tuple #[.int .i64 0, .int .i64 2] else .tuple #[.int .i64 (n * Q c), .int .i64 0]) ∧ Fr No w w') :=
  First_spec (c.c1 * P c) (P c) c.c1 (c.c1 * P c / Q c) (min 1048576 (c.c1 * P c - P c)) n c.c2.toNat hV.k2 (by have := cards_mul hV; have h : c.c1 * P c / Q c * 2 ^ c.c2.toNat = c.c1 * P c := this; have := (P_le hV).2.2.2.2.2; omega) w
def stS (rs : List R) (i : Int) : Int := match rget rs i with | some x => x.1 | none => 0
def topS (words : Int) (rs : List R) (i : Int) : Int := match rget rs i with | some x => i * words + x.2.1 | none => 0
theorem State_any {b r : Nat} {words : Int} {rs : List R} (i : Int) (w : World) (h : IsReg w b r words rs) :
    CallC Pr f_region_Table_State [.pointer (some ⟨b, 0, none⟩), .int .i64 i] w (fun v w' => v = .int .i64 (stS rs i) ∧ Fr No w w') := by
  unfold stS
  cases hx : rget rs i with
  | some x => obtain ⟨h0, h1, h2⟩ := rget_some hx; exact State_spec i w h h0 h2
  | none =>
    refine call_sound T_ok fun_region_Table_State rfl (by kernel_rfl) rfl (Kp ?_)
    refine CallC_intro (at_out i w h (rget_none hx)) (fun v w1 ⟨hv, f1⟩ => ?_)
    subst hv
    exact ⟨rfl, f1⟩
theorem Top_any {b r : Nat} {words : Int} {rs : List R} (i : Int) (w : World) (h : IsReg w b r words rs) :
    CallC Pr f_region_Table_Top [.pointer (some ⟨b, 0, none⟩), .int .i64 i] w (fun v w' => v = .int .i64 (topS words rs i) ∧ Fr No w w') := by
  unfold topS
  cases hx : rget rs i with
  | some x => obtain ⟨h0, h1, h2⟩ := rget_some hx; exact Top_spec i w h h0 h2
  | none =>
    refine call_sound T_ok fun_region_Table_Top rfl (by kernel_rfl) rfl (Kp ?_)
    refine CallC_intro (at_out i w h (rget_none hx)) (fun v w1 ⟨hv, f1⟩ => ?_)
    subst hv
    exact ⟨rfl, f1⟩
theorem bounds_ok {b r : Nat} {acc : Int} {ws : List Int} (i j : Int) (w : World) (h : IsArena w b r acc ws) (h0 : 0 ≤ i) (h1 : i ≤ j) (h2 : j ≤ (ws.length : Int)) :
    CallC Pr f_parse_bounds [.pointer (some ⟨b, 0, none⟩), .int .i64 i, .int .i64 j] w (fun v w' => v = .int .i64 0 ∧ Fr No w w') := by
  refine call_sound T_ok fun_parse_bounds rfl (by kernel_rfl) rfl (Kp ?_)
  refine Br_df (show ¬ i < 0 by omega) ?_
  refine Br_df (show ¬ j < i by omega) ?_
  refine CallC_intro (arena_Len_spec w h) (fun v w1 ⟨hv, f1⟩ => ?_)
  subst hv
  refine Br_df (show ¬ j > (ws.length : Int) by omega) ?_
  exact ⟨rfl, f1⟩
theorem opt_ext {α : Type} {a b : Option α} (h : ∀ x, a = some x ↔ b = some x) : a = b := by
  cases a with
  | none => cases b with
    | none => rfl
    | some y => have := (h y).2 rfl; cases this
  | some x => exact ((h x).1 rfl).symm
theorem starts_nil (ws : List Int) (a : Int) : startsS ws a a = some [] := (starts_iff (Int.le_refl a)).2 (Tile.nil a)
theorem starts_cons {ws : List Int} {a b : Int} (h : a < b) {hd : Hd} (hh : hdr ws a = some hd) (hk : hd.kind ≠ 3) (hle : a + hd.size ≤ b) : startsS ws a b = (startsS ws (a + hd.size) b).map (a :: ·) := by
  refine opt_ext fun l => ?_
  rw [starts_iff (by omega)]
  constructor
  · intro t
    cases t with
    | nil => omega
    | cons h1 h2 h3 h4 =>
      rw [hh] at h1
      injection h1 with h1
      subst h1
      rw [(starts_iff hle).2 h4]; rfl
  · intro e
    cases hr : startsS ws (a + hd.size) b with
    | none => rw [hr] at e; cases e
    | some r =>
      rw [hr] at e
      injection e with e
      subst e
      exact Tile.cons hh hk hle ((starts_iff hle).1 hr)
theorem starts_bad {ws : List Int} {a b : Int} (h : a < b) (hb : ∀ hd, hdr ws a = some hd → hd.kind = 3 ∨ b < a + hd.size) : startsS ws a b = none := by
  refine opt_ext fun l => ?_
  rw [starts_iff (by omega)]
  constructor
  · intro t
    cases t with
    | nil => omega
    | cons h1 h2 h3 h4 =>
      rcases hb _ h1 with e | e
      · exact absurd e h2
      · omega
  · intro e; cases e
set_option maxHeartbeats 1000000 in
theorem Starts_spec {b r : Nat} {acc : Int} {ws : List Int} (i j : Int) (w : World) (h : IsArena w b r acc ws) (h0 : 0 ≤ i) (h1 : i ≤ j) (h2 : j ≤ (ws.length : Int)) :
    CallC Pr f_parse_Starts [.pointer (some ⟨b, 0, none⟩), .int .i64 i, .int .i64 j] w (fun v w' => (∃ acc', IsArena w' b r acc' ws) ∧ Fr (· = b) w w' ∧
      match startsS ws i j with
      | some l => ∃ lv, v = .tuple #[lv, .int .i64 0] ∧ Own w' w.heap.size lv l
      | none => v = .tuple #[.slice none 0 0, .int .i64 30]) := by
  have n0 := h.n0
  have hl := h.lt
  refine call_sound T_ok fun_parse_Starts rfl (by kernel_rfl) rfl (Kp ?_)
  refine CallC_intro (bounds_ok i j w h h0 h1 h2) (fun v w1 ⟨hv, f1⟩ => ?_)
  subst hv
  refine LoopC_intro (α := Int × Value) (fun q => [(0, .pointer (some ⟨b, 0, none⟩)), (2, .int .i64 j), (9, q.2), (10, .int .i64 q.1)])
    (fun m q w2 => (∃ acc', IsArena w2 b r acc' ws) ∧ Fr (· = b) w w2 ∧ i ≤ q.1 ∧ q.1 ≤ j ∧ (∃ l, Own w2 w.heap.size q.2 l ∧ (l.length : Int) ≤ q.1 - i ∧ startsS ws i j = (startsS ws q.1 j).map (l ++ ·)) ∧ m = (j - q.1).toNat)
    (j - i).toNat (i, .slice none 0 0) ⟨rfl, rfl, rfl, rfl, trivial⟩ ⟨⟨_, h.keep f1 id id⟩, f1.weak (fun _ _ e => e.elim), Int.le_refl _, h1, ⟨[], Own.nil _ _, by show ((0 : Nat) : Int) ≤ i - i; omega, by simp⟩, rfl⟩ (fun m q w2 hJ => Kp ?_)
  obtain ⟨a, lv⟩ := q
  obtain ⟨⟨acc2, hA⟩, F2, a0, a1, ⟨l, own, ll, hs⟩, hm⟩ := hJ
  have a0 : i ≤ a := a0
  have a1 : a ≤ j := a1
  have ll : (l.length : Int) ≤ a - i := ll
  have hm : m = (j - a).toNat := hm
  have own : Own w2 w.heap.size lv l := own
  have hs : startsS ws i j = (startsS ws a j).map (l ++ ·) := hs
  refine Br_dec (fun g => ?_) (fun g => ?_)
  rotate_left
  · have g : ¬ a < j := g
    have : a = j := by omega
    subst this
    refine ⟨⟨_, hA⟩, F2, ?_⟩
    rw [hs, starts_nil]
    show ∃ lv', _ = _ ∧ Own w2 w.heap.size lv' (l ++ [])
    rw [List.append_nil]
    exact ⟨lv, rfl, own⟩
  have g : a < j := g
  refine CallC_intro (At_spec a w2 hA (by omega)) (fun v w3 ⟨hv, hA3, f3⟩ => ?_)
  unfold atS at hv
  rw [if_pos (show 0 ≤ a ∧ a < (ws.length : Int) by omega)] at hv
  have F3 := F2.same f3
  have own3 : Own w3 w.heap.size lv l := own_keepV own f3 (fun k hk e => by have := own.ge k hk; have e : k = b := e; omega)
  cases hh : hdr ws a with
  | none =>
    rw [hh] at hv
    subst hv
    refine NewC_blk (fun q w4 e_q b4 f4 z4 => ?_)
    refine StN_blk (b4) rfl (Nat.le_of_ble_eq_true rfl) (fun w5 b5 f5 z5 => ?_)
    have f35 : Fr No w3 w5 := f4.new f5 (fun _ _ e => e) (fun k e => by omega)
    refine ⟨⟨_, hA3.keep f35 id id⟩, F3.noR f35, ?_⟩
    rw [hs, starts_bad g (fun hd e => by rw [hh] at e; cases e)]
    rfl
  | some hd =>
    rw [hh] at hv
    subst hv
    have ho := hdr_ok hh
    refine NewC_blk (fun q w4 e_q b4 f4 z4 => ?_)
    refine StN_blk (b4) rfl (Nat.le_of_ble_eq_true rfl) (fun w5 b5 f5 z5 => ?_)
    have b5 : Blk w5 q t_api_Header hd.L := b5
    have f35 : Fr No w3 w5 := f4.new f5 (fun _ _ e => e) (fun k e => by omega)
    have hA5 := hA3.keep f35 id id
    have F5 := F3.noR f35
    have own5 : Own w5 w.heap.size lv l := own_keepV own3 f35 (fun _ _ => id)
    refine LdC_blk (b5) rfl ?_
    refine Br_dec (fun g1 => ?_) (fun g1 => ?_)
    · have g1 : hd.kind = 3 := g1
      refine ⟨⟨_, hA5⟩, F5, ?_⟩
      rw [hs, starts_bad g (fun hd' e => by rw [hh] at e; injection e with e; subst e; exact .inl g1)]
      rfl
    have g1 : ¬ hd.kind = 3 := g1
    have ew : IntKind.i64.wrap (a + hd.size) = a + hd.size := wrap_i64 (by omega) (by omega)
    refine LdC_blk (b5) rfl ?_
    refine Br_dec (fun g2 => ?_) (fun g2 => ?_)
    · have g2 : IntKind.i64.wrap (a + hd.size) > j := g2
      rw [ew] at g2
      refine ⟨⟨_, hA5⟩, F5, ?_⟩
      rw [hs, starts_bad g (fun hd' e => by rw [hh] at e; injection e with e; subst e; exact .inr g2)]
      rfl
    have g2 : ¬ IntKind.i64.wrap (a + hd.size) > j := g2
    rw [ew] at g2
    refine NewC_blk (fun y w6 e_y b6 f6 z6 => ?_)
    have b6 : Blk w6 y t_int (ints [a]) := b6
    have own6 : w6.ownsRow w.heap.size t_int 1 lv l.length (ints l) := own_keepV own5 f6 (fun _ _ => id)
    have F6 := F5.noR f6
    refine ApL T_ok (base := w.heap.size) (xs := ints l) (news := ints [a]) rfl rfl rfl (by decide) own6 F6.size b6 rfl rfl rfl (by omega) (show (l.length + 1) * 8 ≤ _ by omega) (fun v' w7 own7 f7 loc => ?_)
    have hge : ∀ k, lv.ownBlock = some k → w.heap.size ≤ k := fun k e => own.ge k e
    have F7 : Fr (· = b) w w7 := F6.new f7 (fun _ _ e => e) (fun k e => hge k e)
    have b7 : Blk w7 q t_api_Header hd.L := (b5.keep f6 id).keep f7 (fun e => by
      have := own3.lt q e
      omega)
    refine LdC_blk (b7) rfl ?_
    refine ⟨(j - (a + hd.size)).toNat, _, by omega, ?_, (a + hd.size, v'), rfl, ⟨_, (hA5.keep f6 id id).keep f7 (fun e => by have := hge _ e; omega) (fun e => by have := hge _ e; omega)⟩, F7, (show i ≤ a + hd.size by omega), (show a + hd.size ≤ j by omega), ⟨l ++ [a], own_snoc own7, ?_, ?_⟩, rfl⟩
    · exact ⟨rfl, rfl, rfl, look_int rfl ew, trivial⟩
    · show ((l ++ [a]).length : Int) ≤ a + hd.size - i
      rw [List.length_append]
      show ((l.length + 1 : Nat) : Int) ≤ _
      omega
    · show startsS ws i j = (startsS ws (a + hd.size) j).map ((l ++ [a]) ++ ·)
      rw [hs, starts_cons g hh g1 (by omega), Option.map_map]
      congr 1
      funext x
      simp
end Go.Proofs.YtdhbpklmkibmbaaGreat
/- Layer 14 (heap): end, whole, Row, Object. -/
namespace Go.Proofs.YtdhbpklmkibmbaaGreat
open Go.Vc

def HS.setAcc (s : HS) (a : Int) : HS := { s with acc := a }
section
variable {w w' : World} {z : Nat → Nat} {c : Cfg} {hb : Nat} {p : HP} {s : HS}
theorem HeapAt.no (h : HeapAt w z c hb p s) (f : Fr No w w') : HeapAt w' z c hb p s := h.mv (Mv.of (S := fun _ => False) f) (fun _ _ => id)
/-- A step of the arena's count. -/
theorem HeapAt.acc (h : HeapAt w z c hb p s) {r : Nat} {a : Int} (f : Fr (· = p.ab) w w') (hA : IsArena w' p.ab r a s.ws) (zb : z p.ab = 2) (zr : z r = 2) : HeapAt w' z c hb p (s.setAcc a) ∧ Mv z z (· = 2) w w' := by
  have m : Mv z z (· = 2) w w' := Mv.ofZ f (fun k _ e => by rw [e]; exact zb)
  exact ⟨h.setArena m ⟨r, hA, zb, zr⟩ rfl, m⟩
/-- A heap, and where its words lie. -/
structure HA (w : World) (z : Nat → Nat) (c : Cfg) (hb : Nat) (p : HP) (s : HS) (ar : Nat) : Prop where
  h : HeapAt w z c hb p s
  a : IsArena w p.ab ar s.acc s.ws
  zb : z p.ab = 2
  zr : z ar = 2
theorem HeapAt.ha (h : HeapAt w z c hb p s) : ∃ ar, HA w z c hb p s ar := by
  obtain ⟨ar, hA, zb, zr⟩ := h.arena
  exact ⟨ar, h, hA, zb, zr⟩
theorem HA.aft {ar : Nat} {q : Int} (H : HA w z c hb p s ar) (f : Fr (· = p.ab) w w') (hA : IsArena w' p.ab ar q s.ws) : HA w' z c hb p (s.setAcc q) ar := ⟨(H.h.acc f hA H.zb H.zr).1, hA, H.zb, H.zr⟩
theorem HA.no {ar : Nat} (H : HA w z c hb p s ar) (f : Fr No w w') : HA w' z c hb p s ar := ⟨H.h.no f, H.a.keep f id id, H.zb, H.zr⟩
/-- A step that writes only what is new since w. -/
theorem HA.new {ar : Nat} {q : Int} {w5 w6 : World} {G : Nat → Prop} (H : HA w z c hb p s ar) (H5 : HA w5 z c hb p (s.setAcc q) ar) (F5 : Fr (· = p.ab) w w5) (f6 : Fr G w5 w6) (hG : ∀ k, G k → w.heap.size ≤ k) : HA w6 z c hb p (s.setAcc q) ar ∧ Fr (· = p.ab) w w6 := by
  have F6 : Fr (· = p.ab) w w6 := F5.new f6 (fun _ _ e => e) hG
  have hl := H.a.lt
  exact ⟨H.aft F6 (H5.a.keep f6 (fun e => by have := hG _ e; omega) (fun e => by have := hG _ e; omega)), F6⟩
def endF (c : Cfg) (r : Int) (e : Int) (x : Int × Int) : Int := if x.1 < x.2 ∧ regC c x.1 = r then x.1 else e
def endS (c : Cfg) (s : HS) (r : Int) : Int := s.bufs.foldl (endF c r) (topS (P c) s.rs r)
theorem top_in (_hp : 0 ≤ P c) {rs : List R} (us : ∀ x ∈ rs, 0 ≤ x.2.1 ∧ x.2.1 ≤ P c ∧ 0 ≤ x.2.2 ∧ x.2.2 ≤ P c) {r : Int} (h0 : 0 ≤ r) (h1 : r < rs.length) : r * P c ≤ topS (P c) rs r ∧ topS (P c) rs r ≤ r * P c + P c := by
  obtain ⟨x, hx⟩ : ∃ x, rs[r.toNat]? = some x := ⟨_, List.getElem?_eq_getElem (show r.toNat < rs.length by omega)⟩
  unfold topS rget
  rw [if_pos h0, hx]
  have := us x (List.mem_of_getElem? hx)
  dsimp only
  omega
theorem end_in (h : HeapAt w z c hb p s) {r : Int} (h0 : 0 ≤ r) (h1 : r < c.c1) : r * P c ≤ endS c s r ∧ endS c s r ≤ r * P c + P c := by
  have hp := P_le h.ok
  obtain ⟨rb, hR, _⟩ := h.regs
  have ht := top_in (c := c) (by omega) hR.us h0 (by rw [h.rsl]; exact h1)
  unfold endS
  have : ∀ (l : List (Int × Int)) (e : Int), r * P c ≤ e ∧ e ≤ r * P c + P c → r * P c ≤ l.foldl (endF c r) e ∧ l.foldl (endF c r) e ≤ r * P c + P c := by
    intro l
    induction l with
    | nil => intro e he; exact he
    | cons x l ih =>
      intro e he
      refine ih _ ?_
      unfold endF
      split
      · rename_i hx
        have hx := hx.2
        unfold regC at hx
        split at hx
        · omega
        · rename_i hx2
          have hn : 0 ≤ x.1 := by omega
          have := Int.mul_ediv_add_emod x.1 (P c)
          have m0 := Int.emod_nonneg x.1 (show P c ≠ 0 by omega)
          have m1 := Int.emod_lt_of_pos x.1 (show 0 < P c by omega)
          rw [hx, Int.mul_comm] at this
          omega
      · exact he
  exact this _ _ ht
theorem row_mul (hV : Valid c) {r : Int} (h0 : 0 ≤ r) (h1 : r < c.c1) : 0 ≤ r * P c ∧ r * P c + P c ≤ c.c1 * P c := by
  have hp := P_le hV
  refine ⟨Int.mul_nonneg h0 (by omega), ?_⟩
  have : (r + 1) * P c ≤ c.c1 * P c := Int.mul_le_mul_of_nonneg_right (by omega) (by omega)
  rw [Int.add_mul, Int.one_mul] at this
  exact this
end
theorem end_spec {c : Cfg} {p : HP} {hb : Nat} {z : Nat → Nat} {s : HS} (r : Int) (w : World) (h : HeapAt w z c hb p s) : CallC Pr f_heap_Heap_end [ptr hb, .int .i64 r] w (fun v w' => v = .int .i64 (endS c s r) ∧ Fr No w w') := by
  have hp := P_le h.ok
  have c3 := h.c3
  have hbl := h.bufl
  obtain ⟨ra, rc, hr, hT⟩ := h.cells
  obtain ⟨rb, hR, _⟩ := h.regs
  refine call_sound T_ok fun_heap_Heap_end rfl (by kernel_rfl) rfl (Kp ?_)
  refine LdC_blk (hT) rfl ?_
  refine CallC_intro (Top_any r w hR) (fun v w1 ⟨hv, f1⟩ => ?_)
  subst hv
  refine LdC_blk (hT.keep f1 id) rfl ?_
  refine LoopC_intro (α := Int × Int) (fun q => [(0, ptr hb), (1, .int .i64 r), (19, .int .i64 ((c.c3.toNat : Nat) : Int)), (20, .int .i64 q.1), (5, .int .i64 q.2)])
    (fun m q w2 => Fr No w w2 ∧ 0 ≤ q.1 ∧ q.1 ≤ c.c3 ∧ q.2 = (s.bufs.take q.1.toNat).foldl (endF c r) (topS (P c) s.rs r) ∧ m = (c.c3 - q.1).toNat)
    c.c3.toNat (0, topS (P c) s.rs r) ⟨rfl, rfl, rfl, rfl, rfl, trivial⟩ ⟨f1, Int.le_refl _, (show (0 : Int) ≤ c.c3 by omega), rfl, (show c.c3.toNat = (c.c3 - 0).toNat by omega)⟩ (fun m q w2 hJ => Kp ?_)
  obtain ⟨t, e⟩ := q
  obtain ⟨F2, t0, t1, he, hm⟩ := hJ
  have t0 : 0 ≤ t := t0
  have t1 : t ≤ c.c3 := t1
  have he : e = (s.bufs.take t.toNat).foldl (endF c r) (topS (P c) s.rs r) := he
  have hm : m = (c.c3 - t).toNat := hm
  refine Br_dec (fun g => ?_) (fun g => ?_)
  rotate_left
  · have g : ¬ t < ((c.c3.toNat : Nat) : Int) := g
    rw [List.take_of_length_le (by omega)] at he
    exact ⟨by rw [he]; rfl, F2⟩
  have g : t < ((c.c3.toNat : Nat) : Int) := g
  have H2 := h.no F2
  have hx := List.getElem?_eq_getElem (show t.toNat < s.bufs.length by omega)
  obtain ⟨x, ex⟩ : ∃ x, x = s.bufs[t.toNat]'(by omega) := ⟨_, rfl⟩
  rw [← ex] at hx
  refine LdC_blk (hT.keep F2 id) rfl ?_
  refine Sd_intro ((show 0 ≤ t ∧ t < ((c.c3.toNat : Nat) : Int) from ⟨t0, g⟩)) ?_
  have hRs := Rest_spec w2 (H2.buf hx)
  rw [← add_of] at hRs
  refine CallC_intro hRs (fun v w3 ⟨hv, f3⟩ => ?_)
  subst hv
  have F3 := F2.no f3
  have ew : IntKind.i64.wrap (t + 1) = t + 1 := wrap_i64 (by omega) (by omega)
  have fold : (s.bufs.take (t + 1).toNat).foldl (endF c r) (topS (P c) s.rs r) = endF c r e x := by
    rw [show (t + 1).toNat = t.toNat + 1 by omega, List.take_add_one, hx, he, List.foldl_append]; rfl
  refine Br_dec (fun g1 => ?_) (fun g1 => ?_)
  rotate_left
  · have g1 : ¬ x.1 < x.2 := g1
    refine ⟨(c.c3 - (t + 1)).toNat, _, by omega, ?_, (t + 1, e), rfl, F3, (show 0 ≤ t + 1 by omega), (show t + 1 ≤ c.c3 by omega), ?_, rfl⟩
    · exact ⟨rfl, rfl, rfl, look_int rfl ew, rfl, trivial⟩
    · show e = _
      rw [fold]
      unfold endF
      rw [if_neg (fun q => g1 q.1)]
  have g1 : x.1 < x.2 := g1
  refine LdN_blk (vs := geoC c) ((hT.keep F3 id)) rfl rfl ?_
  refine CallC_intro (Region_C h.ok x.1 w3) (fun v w4 ⟨hv, f4⟩ => ?_)
  subst hv
  have F4 := F3.no f4
  refine Br_dec (fun g2 => ?_) (fun g2 => ?_)
  · refine ⟨(c.c3 - (t + 1)).toNat, _, by omega, ?_, (t + 1, x.1), rfl, F4, (show 0 ≤ t + 1 by omega), (show t + 1 ≤ c.c3 by omega), ?_, rfl⟩
    · exact ⟨rfl, rfl, rfl, look_int rfl ew, rfl, trivial⟩
    · show x.1 = _
      rw [fold]
      unfold endF
      rw [if_pos ⟨g1, g2⟩]
  · refine ⟨(c.c3 - (t + 1)).toNat, _, by omega, ?_, (t + 1, e), rfl, F4, (show 0 ≤ t + 1 by omega), (show t + 1 ≤ c.c3 by omega), ?_, rfl⟩
    · exact ⟨rfl, rfl, rfl, look_int rfl ew, rfl, trivial⟩
    · show e = _
      rw [fold]
      unfold endF
      rw [if_neg (fun q => g2 q.2)]
/-- Has a big object just its regions? -/
def wholeP (c : Cfg) (rs : List R) (r size : Int) : Prop := (∀ k : Int, r + 1 ≤ k → k < r + spanC c size → stS rs k = 5) ∧ 0 < spanC c size ∧ r + spanC c size ≤ c.c1
theorem span_le {c : Cfg} (hV : Valid c) {n : Int} (h0 : 1 ≤ n) (h1 : n ≤ 4194304) : 1 ≤ spanC c n ∧ spanC c n ≤ 65537 := by
  have hp := P_le hV
  unfold spanC
  rw [if_neg (by omega)]
  have : 0 ≤ (n - 1) / P c := Int.ediv_nonneg (by omega) (by omega)
  have h2 : (n - 1) / P c < 65537 := Int.ediv_lt_of_lt_mul (by omega) (by omega)
  omega
theorem whole_spec {c : Cfg} {p : HP} {hb : Nat} {z : Nat → Nat} {s : HS} (r size : Int) (w : World) (h : HeapAt w z c hb p s) (hr : 0 ≤ r ∧ r < c.c1) (hs : 1 ≤ size ∧ size ≤ 4194304) :
    CallC Pr f_heap_Heap_whole [ptr hb, .int .i64 r, .int .i64 size] w (fun v w' => (∃ ok : Bool, v = .bool ok ∧ (ok = true ↔ wholeP c s.rs r size)) ∧ Fr No w w') := by
  have hsp := span_le h.ok hs.1 hs.2
  have r1 := h.ok.r1
  obtain ⟨ra, rc, er, hT⟩ := h.cells
  obtain ⟨rb, hR, _⟩ := h.regs
  refine call_sound T_ok fun_heap_Heap_whole rfl (by kernel_rfl) rfl (Kp ?_)
  refine LdN_blk (vs := geoC c) (hT) rfl rfl ?_
  refine CallC_intro (Span_C h.ok size w (by omega) hs.2) (fun v w1 ⟨hv, f1⟩ => ?_)
  subst hv
  obtain ⟨n, en⟩ : ∃ n, n = spanC c size := ⟨_, rfl⟩
  rw [← en] at hsp ⊢
  have e1 : IntKind.i64.wrap (r + 1) = r + 1 := wrap_i64 (by omega) (by omega)
  have e2 : IntKind.i64.wrap (r + n) = r + n := wrap_i64 (by omega) (by omega)
  refine LoopC_intro (α := Int) (fun k => [(0, ptr hb), (1, .int .i64 r), (7, .int .i64 n), (8, .int .i64 k)])
    (fun m k w2 => Fr No w w2 ∧ r + 1 ≤ k ∧ k ≤ r + n ∧ (∀ j : Int, r + 1 ≤ j → j < k → stS s.rs j = 5) ∧ m = (r + n - k).toNat)
    (n - 1).toNat (r + 1) ⟨rfl, rfl, rfl, look_int rfl e1, trivial⟩ ⟨f1, Int.le_refl _, (show r + 1 ≤ r + n by omega), (fun j a b => by omega), (show (n - 1).toNat = (r + n - (r + 1)).toNat by omega)⟩ (fun m k w2 hJ => Kp ?_)
  obtain ⟨F2, k0, k1, hk, hm⟩ := hJ
  have k0 : r + 1 ≤ k := k0
  have k1 : k ≤ r + n := k1
  have hm : m = (r + n - k).toNat := hm
  refine Br_dec (fun g => ?_) (fun g => ?_)
  rotate_left
  · have g : ¬ k < IntKind.i64.wrap (r + n) := g
    rw [e2] at g
    refine Br_dt (show n > 0 by omega) ?_
    refine LdC_blk (hT.keep F2 id) rfl ?_
    refine ⟨⟨_, rfl, ?_⟩, F2⟩
    rw [decide_eq_true_iff, e2]
    unfold wholeP
    rw [← en]
    constructor
    · intro q; exact ⟨fun j a b => hk j a (by omega), by omega, q⟩
    · intro q; exact q.2.2
  have g : k < IntKind.i64.wrap (r + n) := g
  rw [e2] at g
  refine LdC_blk (hT.keep F2 id) rfl ?_
  refine CallC_intro (State_any k w2 (hR.keep F2 id id)) (fun v w3 ⟨hv, f3⟩ => ?_)
  subst hv
  have F3 := F2.no f3
  refine Br_ndec (fun g1 => ?_) (fun g1 => ?_)
  · have g1 : ¬ stS s.rs k = 5 := g1
    refine ⟨⟨false, rfl, ?_⟩, F3⟩
    constructor
    · intro q; cases q
    · intro q; exact absurd (q.1 k k0 (by rw [← en]; exact g)) g1
  · have g1 : stS s.rs k = 5 := g1
    refine ⟨(r + n - (k + 1)).toNat, _, by omega, ?_, k + 1, rfl, F3, (show r + 1 ≤ k + 1 by omega), (show k + 1 ≤ r + n by omega), (fun j a b => ?_), rfl⟩
    · exact ⟨rfl, rfl, rfl, look_int rfl (wrap_i64 (by omega) (by omega)), trivial⟩
    · by_cases e : j = k
      · rw [e]; exact g1
      · exact hk j a (by have b : j < k + 1 := b; omega)
noncomputable def wholeB (c : Cfg) (rs : List R) (r size : Int) : Bool := @decide (wholeP c rs r size) (Classical.propDecidable _)
theorem wholeB_iff {c : Cfg} {rs : List R} {r size : Int} : wholeB c rs r size = true ↔ wholeP c rs r size := by unfold wholeB; exact @decide_eq_true_iff _ (Classical.propDecidable _)
theorem own_low {w : World} {base base' e size n : Nat} {v : Value} {xs : List Value} (h : w.ownsRow base e size v n xs) (hb : base' ≤ base) : w.ownsRow base' e size v n xs := by
  obtain ⟨hl, h | ⟨g, cap, cur, hv, hg, h⟩⟩ := h
  · exact ⟨hl, .inl h⟩
  · exact ⟨hl, .inr ⟨g, cap, cur, hv, Nat.le_trans hb hg, h⟩⟩
/-- A region's row. -/
noncomputable def rowS (c : Cfg) (s : HS) (r : Int) : Option (List Int) :=
  if stS s.rs r = 0 ∨ stS s.rs r = 5 then some []
  else if stS s.rs r = 4 then (match hdr s.ws (r * P c) with | some h => if h.kind = 1 ∧ wholeB c s.rs r h.size = true then some [r * P c] else none | none => none)
  else startsS s.ws (r * P c) (endS c s r)
def rowV (w w' : World) (v : Value) (o : Option (List Int)) : Prop := match o with
  | some l => ∃ lv, v = .tuple #[lv, .int .i64 0] ∧ Own w' w.heap.size lv l
  | none => v = .tuple #[.slice none 0 0, .int .i64 30]
theorem Row_nil (r : Int) (w : World) : CallC Pr f_heap_Heap_Row [.pointer none, .int .i64 r] w (fun v w' => v = .tuple #[.slice none 0 0, .int .i64 1] ∧ Fr No w w') := by
  refine call_sound T_ok fun_heap_Heap_Row rfl (by kernel_rfl) rfl (Kp ?_)
  exact ⟨rfl, Fr.refl _ _⟩
theorem Row_out {c : Cfg} {p : HP} {hb : Nat} {z : Nat → Nat} {s : HS} (r : Int) (w : World) (h : HeapAt w z c hb p s) (hr : ¬ (0 ≤ r ∧ r < c.c1)) :
    CallC Pr f_heap_Heap_Row [ptr hb, .int .i64 r] w (fun v w' => v = .tuple #[.slice none 0 0, .int .i64 2] ∧ Fr No w w') := by
  obtain ⟨ra, rc, er, hT⟩ := h.cells
  refine call_sound T_ok fun_heap_Heap_Row rfl (by kernel_rfl) rfl (Kp ?_)
  refine LdN_blk (vs := geoC c) (hT) rfl rfl ?_
  refine CallC_intro (Base_C h.ok r w) (fun v w1 ⟨hv, f1⟩ => ?_)
  rw [if_pos (by omega)] at hv
  subst hv
  exact ⟨rfl, f1⟩
set_option maxHeartbeats 1000000 in
theorem Row_spec {c : Cfg} {p : HP} {hb : Nat} {z : Nat → Nat} {s : HS} {ar : Nat} (r : Int) (w : World) (H : HA w z c hb p s ar) (hr : 0 ≤ r ∧ r < c.c1) :
    CallC Pr f_heap_Heap_Row [ptr hb, .int .i64 r] w (fun v w' => (∃ a, HA w' z c hb p (s.setAcc a) ar) ∧ Fr (· = p.ab) w w' ∧ rowV w w' v (rowS c s r)) := by
  have h := H.h
  have hA := H.a
  have zab := H.zb
  have zar := H.zr
  have hp := P_le h.ok
  have hend := end_in h hr.1 hr.2
  have hmul := row_mul h.ok hr.1 hr.2
  have hwl := h.wsl
  obtain ⟨ra, rc, er, hT⟩ := h.cells
  obtain ⟨rb, hR, zrb, zrr⟩ := h.regs
  have pl : w.heap.size ≤ w.heap.size := Nat.le_refl _
  refine call_sound T_ok fun_heap_Heap_Row rfl (by kernel_rfl) rfl (Kp ?_)
  refine LdN_blk (vs := geoC c) (hT) rfl rfl ?_
  refine CallC_intro (Base_C h.ok r w) (fun v w1 ⟨hv, f1⟩ => ?_)
  rw [if_neg (by omega)] at hv
  subst hv
  refine LdC_blk (hT.keep f1 id) rfl ?_
  refine CallC_intro (State_any r w1 (hR.keep f1 id id)) (fun v w2 ⟨hv, f2⟩ => ?_)
  subst hv
  have F2 := f1.no f2
  have H2 := h.no F2
  have hT2 := hT.keep F2 id
  have hA2 := hA.keep F2 id id
  have none_case : ∀ {w' : World} {a : Int}, HA w' z c hb p (s.setAcc a) ar → Fr (· = p.ab) w w' → rowS c s r = some [] → (∃ a, HA w' z c hb p (s.setAcc a) ar) ∧ Fr (· = p.ab) w w' ∧ rowV w w' (.tuple #[.slice none 0 0, .int .i64 0]) (rowS c s r) := fun H m e => ⟨⟨_, H⟩, m, by rw [e]; exact ⟨_, rfl, Own.nil _ _⟩⟩
  refine Br_dec (fun g0 => ?_) (fun g0 => ?_)
  · have g0 : stS s.rs r = 0 := g0
    refine none_case (a := s.acc) (H.no F2) (F2.weak fun _ _ e => e.elim) ?_
    unfold rowS
    rw [if_pos (.inl g0)]
  have g0 : ¬ stS s.rs r = 0 := g0
  refine Br_dec (fun g5 => ?_) (fun g5 => ?_)
  · have g5 : stS s.rs r = 5 := g5
    refine none_case (a := s.acc) (H.no F2) (F2.weak fun _ _ e => e.elim) ?_
    unfold rowS
    rw [if_pos (.inr g5)]
  have g5 : ¬ stS s.rs r = 5 := g5
  refine Br_dec (fun g4 => ?_) (fun g4 => ?_)
  · have g4 : stS s.rs r = 4 := g4
    have eS : rowS c s r = (match hdr s.ws (r * P c) with | some h => if h.kind = 1 ∧ wholeB c s.rs r h.size = true then some [r * P c] else none | none => none) := by
      unfold rowS
      rw [if_neg (by omega), if_pos g4]
    rw [eS]
    refine LdC_blk (hT2) rfl ?_
    refine CallC_intro (At_spec (r * P c) w2 hA2 (by omega)) (fun v w3 ⟨hv, hA3, f3⟩ => ?_)
    have H3 := H.aft (F2.noL f3) hA3
    unfold atS at hv
    rw [if_pos (show 0 ≤ r * P c ∧ r * P c < (s.ws.length : Int) by omega)] at hv
    have M3 : Fr (· = p.ab) w w3 := F2.noL f3
    cases hh : hdr s.ws (r * P c) with
    | none =>
      rw [hh] at hv
      subst hv
      refine NewC_blk (fun q w4 e_q b4 f4 z4 => ?_)
      refine StN_blk (b4) rfl (Nat.le_of_ble_eq_true rfl) (fun w5 b5 f5 z5 => ?_)
      have f35 : Fr No w3 w5 := f4.new f5 (fun _ _ e => e) (fun k e => by omega)
      exact ⟨⟨_, H3.no f35⟩, M3.noR f35, rfl⟩
    | some hd =>
      rw [hh] at hv
      subst hv
      have ho := hdr_ok hh
      refine NewC_blk (fun q w4 e_q b4 f4 z4 => ?_)
      refine StN_blk (b4) rfl (Nat.le_of_ble_eq_true rfl) (fun w5 b5 f5 z5 => ?_)
      have b5 : Blk w5 q t_api_Header hd.L := b5
      have f35 : Fr No w3 w5 := f4.new f5 (fun _ _ e => e) (fun k e => by omega)
      have H5 := H3.no f35
      have M5 := M3.noR f35
      refine LdC_blk (b5) rfl ?_
      refine Br_ndec (fun g1 => ?_) (fun g1 => ?_)
      · have g1 : ¬ hd.kind = 1 := g1
        refine ⟨⟨_, H5⟩, M5, ?_⟩
        dsimp only
        rw [if_neg (fun q => g1 q.1)]
        rfl
      have g1 : hd.kind = 1 := g1
      refine LdC_blk (b5) rfl ?_
      refine CallC_intro (whole_spec r hd.size w5 H5.h hr (by omega)) (fun v w6 ⟨⟨ok, hv, hok⟩, f6⟩ => ?_)
      subst hv
      have H6 := H5.no f6
      have M6 := M5.noR f6
      cases ok with
      | false =>
        refine ⟨⟨_, H6⟩, M6, ?_⟩
        dsimp only
        rw [if_neg (fun q => by have := hok.2 (wholeB_iff.1 q.2); cases this)]
        rfl
      | true =>
        refine NewC_blk (fun y w7 e_y b7 f7 z7 => ?_)
        have b7 : Blk w7 y t_int (ints [r * P c]) := b7
        refine ⟨⟨_, H6.no f7⟩, M6.noR f7, ?_⟩
        dsimp only
        rw [if_pos ⟨g1, wholeB_iff.2 (hok.1 rfl)⟩]
        refine ⟨_, rfl, rfl, .inr ⟨y, 1, _, rfl, ?_, b7, Nat.le_refl _, ?_, ?_, rfl⟩⟩
        · have := M6.size; omega
        · decide
        · rfl
  have g4 : ¬ stS s.rs r = 4 := g4
  have eS : rowS c s r = startsS s.ws (r * P c) (endS c s r) := by
    unfold rowS
    rw [if_neg (by omega), if_neg g4]
  rw [eS]
  refine AnyC_plan T_ok mixed (planO [0,1,2,3,4,5,6,1007,1008,9,10,11,12]) ((fun w' => Blk w' hb t_heap_Heap (cfgL c ++ geoC c ++ [ptr p.ab, ptr p.rb, ptr p.ob, ptr p.cb, ptr p.qb, ptr p.sb, ptr p.mb, .slice ra p.bs.length rc, .slice (some ⟨p.bf, 0, none⟩) c.c3.toNat c.c3.toNat]))) (by kernel_rfl) (by kernel_rfl) (hT2.keep (Fr.drew _) id) (Kp ?_)
  refine LdS_of (fun w' hw => hw) rfl ?_
  refine ⟨?_, trivial⟩
  have H2d := H2.no (Fr.drew w2)
  refine CallC_intro (end_spec r w2.drew H2d) (fun v w3 ⟨hv, f3⟩ => ?_)
  subst hv
  have F3 := (F2.no (Fr.drew w2)).no f3
  refine Sd_intro (hT.keep F3 id) ?_
  refine ⟨?_, trivial⟩
  have H3 := h.no F3
  refine CallC_intro (Starts_spec (r * P c) (endS c s r) w3 (hA.keep F3 id id) (by omega) (by omega) (by omega)) (fun v w4 ⟨⟨a4, hA4⟩, f4, hv⟩ => ?_)
  have H4 := H.aft (F3.noL f4) hA4
  have M4 : Fr (· = p.ab) w w4 := F3.noL f4
  have hT4 : Blk w4 hb t_heap_Heap (cfgL c ++ geoC c ++ [ptr p.ab, ptr p.rb, ptr p.ob, ptr p.cb, ptr p.qb, ptr p.sb, ptr p.mb, .slice ra p.bs.length rc, .slice (some ⟨p.bf, 0, none⟩) c.c3.toNat c.c3.toNat]) := (hT.keep F3 id).keep f4 (fun e => by have := h.tabz; rw [show hb = p.ab from e, zab] at this; cases this)
  refine Sd_intro (hT4) ?_
  cases hS : startsS s.ws (r * P c) (endS c s r) with
  | none =>
    rw [hS] at hv
    have hv : v = .tuple #[.slice none 0 0, .int .i64 30] := hv
    subst hv
    exact ⟨⟨_, H4⟩, M4, rfl⟩
  | some l =>
    rw [hS] at hv
    obtain ⟨lv, hv, own⟩ := hv
    subst hv
    exact ⟨⟨_, H4⟩, M4, ⟨lv, rfl, own_low own F3.size⟩⟩
end Go.Proofs.YtdhbpklmkibmbaaGreat
