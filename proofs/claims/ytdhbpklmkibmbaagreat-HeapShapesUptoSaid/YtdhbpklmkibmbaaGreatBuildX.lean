/- Layer 14 (heap): Object; Lost of a heap that isn't sound. -/
import Derived.Test.YtdhbpklmkibmbaaGreatHeapS
import Derived.Test.YtdhbpklmkibmbaaGreatLaid
import Derived.Test.YtdhbpklmkibmbaaGreatRef14
import Derived.Test.YtdhbpklmkibmbaaGreatAwake14
namespace Go.Proofs.YtdhbpklmkibmbaaGreat
open Go.Vc

theorem Lost_bad {c : Cfg} {p : HP} {hb : Nat} {z : Nat → Nat} {s : HS} {ar : Nat} (v : Value) (w : World) (H : HA w z c hb p s ar) (hn : okS c s = none) :
    CallC Pr f_heap_Heap_Lost [ptr hb, v] w (fun r w' => r = .slice none 0 0 ∧ (∃ q, HA w' z c hb p (s.setAcc q) ar) ∧ Fr (· = p.ab) w w') := by
  refine call_sound T_ok fun_heap_Heap_Lost rfl (by kernel_rfl) rfl (Kp ?_)
  refine CallC_intro (objects_spec w H) (fun v w1 ⟨h1, f1, hv⟩ => ?_)
  rw [hn] at hv
  have hv : v = .tuple #[.map none, .int .i64 30] := hv
  subst hv
  exact ⟨rfl, h1, f1⟩
/-- What Object tells. -/
def objV (ws : List Int) (r : Int) : Hd × Int := if r = 0 then (hd0, 12) else if r > (ws.length : Int) then (hd0, 2) else
  if (atS ws (r - 1)).2 ≠ 0 then (hd0, (atS ws (r - 1)).2) else if (atS ws (r - 1)).1.kind = 1 then ((atS ws (r - 1)).1, 0) else (hd0, 30)
theorem Object_spec {c : Cfg} {p : HP} {hb : Nat} {z : Nat → Nat} {s : HS} {ar : Nat} (r : Int) (w : World) (H : HA w z c hb p s ar) (hr : 0 ≤ r ∧ r ≤ 18446744073709551615) :
    CallC Pr f_heap_Heap_Object [ptr hb, .int .u64 r] w (fun v w' => v = .tuple #[.agg (objV s.ws r).1.L.toArray, .int .i64 (objV s.ws r).2] ∧ (∃ q, HA w' z c hb p (s.setAcc q) ar) ∧ Fr (· = p.ab) w w') := by
  have h := H.h
  have hwl := h.wsl
  have hp := P_le h.ok
  obtain ⟨rra, rrc, er, hT⟩ := h.cells
  have nab : hb ≠ p.ab := fun e => by have := h.tabz; rw [e, H.zb] at this; cases this
  have hal := H.a.lt
  refine call_sound T_ok fun_heap_Heap_Object rfl (by kernel_rfl) rfl (Kp ?_)
  refine NewC_blk (fun y w1 e_y b1 f1 z1 => ?_)
  have b1 : Blk w1 y t_api_Header hd0.L := b1
  have done : ∀ {w' : World} {q : Int} {G : Nat → Prop} {w'' : World}, HA w' z c hb p (s.setAcc q) ar → Fr (· = p.ab) w w' → Fr G w' w'' → (∀ k, G k → w.heap.size ≤ k) → (∃ q, HA w'' z c hb p (s.setAcc q) ar) ∧ Fr (· = p.ab) w w'' := fun h1 f1 f2 hG => by
    obtain ⟨h2, f3⟩ := H.new h1 f1 f2 hG
    exact ⟨⟨_, h2⟩, f3⟩
  have H1 : HA w1 z c hb p (s.setAcc s.acc) ar := H.no f1
  have F1 : Fr (· = p.ab) w w1 := f1.weak (fun _ _ e => e.elim)
  refine Br_dec (fun g => ?_) (fun g => ?_)
  · have g : r = 0 := g
    refine StN_blk (b1) rfl (Nat.le_of_ble_eq_true rfl) (fun w2 b2 f2 z2 => ?_)
    have b2 : Blk w2 y t_api_Header hd0.L := b2
    refine LdN_blk (vs := hd0.L) (b2) rfl rfl ?_
    have eo : objV s.ws r = (hd0, 12) := by unfold objV; rw [if_pos g]
    rw [eo]
    exact ⟨rfl, done H1 F1 f2 (fun k e => by omega)⟩
  have g : ¬ r = 0 := g
  refine LdC_blk (hT.keep f1 id) rfl ?_
  have ecv : IntKind.u64.wrap (c.c1 * P c) = c.c1 * P c := wrap_u64 (by omega) (by omega)
  refine Br_dec (fun g1 => ?_) (fun g1 => ?_)
  · have g1 : r > IntKind.u64.wrap (c.c1 * P c) := g1
    rw [ecv] at g1
    refine StN_blk (b1) rfl (Nat.le_of_ble_eq_true rfl) (fun w2 b2 f2 z2 => ?_)
    have b2 : Blk w2 y t_api_Header hd0.L := b2
    refine LdN_blk (vs := hd0.L) (b2) rfl rfl ?_
    have eo : objV s.ws r = (hd0, 2) := by unfold objV; rw [if_neg g, if_pos (by omega)]
    rw [eo]
    exact ⟨rfl, done H1 F1 f2 (fun k e => by omega)⟩
  have g1 : ¬ r > IntKind.u64.wrap (c.c1 * P c) := g1
  rw [ecv] at g1
  refine LdC_blk (hT.keep f1 id) rfl ?_
  have e1 : IntKind.i64.wrap (IntKind.u64.wrap (r - 1)) = r - 1 := by rw [wrap_u64 (by omega) (by omega), wrap_i64 (by omega) (by omega)]
  have hAt := At_spec (r - 1) w1 H1.a (by omega)
  rw [← e1] at hAt
  refine CallC_intro hAt (fun v w2 ⟨hv, hA2, f2⟩ => ?_)
  rw [e1] at hv
  have hv : v = .tuple #[.agg (atS s.ws (r - 1)).1.L.toArray, .int .i64 (atS s.ws (r - 1)).2] := hv
  have hin : 0 ≤ r - 1 ∧ r - 1 < (s.ws.length : Int) := by omega
  have F2 := F1.same f2
  have H2 := H.aft F2 hA2
  have bw2 := b1.keep f2 (fun e => by have e : y = p.ab := e; omega)
  have s1 := f2.size
  have eq0 : objV s.ws r = if (atS s.ws (r - 1)).2 ≠ 0 then (hd0, (atS s.ws (r - 1)).2) else if (atS s.ws (r - 1)).1.kind = 1 then ((atS s.ws (r - 1)).1, 0) else (hd0, 30) := by
    unfold objV
    rw [if_neg g, if_neg (by omega)]
  cases hh : hdr s.ws (r - 1) with
  | none =>
    have ea : atS s.ws (r - 1) = (hd0, 30) := by unfold atS; rw [if_pos hin, hh]
    rw [ea] at hv eq0
    have eo : objV s.ws r = (hd0, 30) := by rw [eq0]; exact if_pos (by decide)
    subst hv
    refine NewC_blk (fun x w3 e_x b3 f3 z3 => ?_)
    refine StN_blk (b3) rfl (Nat.le_of_ble_eq_true rfl) (fun w4 b4 f4 z4 => ?_)
    have f24 : Fr No w2 w4 := f3.new f4 (fun _ _ e => e) (fun k e => by omega)
    refine StN_blk (bw2.keep f24 id) rfl (Nat.le_of_ble_eq_true rfl) (fun w5 b5 f5 z5 => ?_)
    have b5 : Blk w5 y t_api_Header hd0.L := b5
    refine LdN_blk (vs := hd0.L) (b5) rfl rfl ?_
    rw [eo]
    obtain ⟨H4, F4⟩ := H.new H2 F2 f24 (fun k e => e.elim)
    exact ⟨rfl, done H4 F4 f5 (fun k e => by omega)⟩
  | some hd =>
    have ea : atS s.ws (r - 1) = (hd, 0) := by unfold atS; rw [if_pos hin, hh]
    rw [ea] at hv eq0
    subst hv
    refine NewC_blk (fun x w3 e_x b3 f3 z3 => ?_)
    refine StN_blk (b3) rfl (Nat.le_of_ble_eq_true rfl) (fun w4 b4 f4 z4 => ?_)
    have b4 : Blk w4 x t_api_Header hd.L := b4
    have f24 : Fr No w2 w4 := f3.new f4 (fun _ _ e => e) (fun k e => by omega)
    obtain ⟨H4, F4⟩ := H.new H2 F2 f24 (fun k e => e.elim)
    refine LdC_blk (b4) rfl ?_
    refine Br_ndec (fun g2 => ?_) (fun g2 => ?_)
    · have g2 : ¬ hd.kind = 1 := g2
      have eo : objV s.ws r = (hd0, 30) := by rw [eq0, if_neg (fun e => e rfl), if_neg g2]
      refine StN_blk (bw2.keep f24 id) rfl (Nat.le_of_ble_eq_true rfl) (fun w5 b5 f5 z5 => ?_)
      have b5 : Blk w5 y t_api_Header hd0.L := b5
      refine LdN_blk (vs := hd0.L) (b5) rfl rfl ?_
      rw [eo]
      exact ⟨rfl, done H4 F4 f5 (fun k e => by omega)⟩
    · have g2 : hd.kind = 1 := g2
      have eo : objV s.ws r = (hd, 0) := by rw [eq0, if_neg (fun e => e rfl), if_pos g2]
      refine LdN_blk (vs := hd.L) (b4) rfl rfl ?_
      refine StN_blk (bw2.keep f24 id) rfl (Nat.le_of_ble_eq_true rfl) (fun w5 b5 f5 z5 => ?_)
      have b5 : Blk w5 y t_api_Header hd.L := b5
      refine LdN_blk (vs := hd.L) (b5) rfl rfl ?_
      rw [eo]
      exact ⟨rfl, done H4 F4 f5 (fun k e => by omega)⟩
end Go.Proofs.YtdhbpklmkibmbaaGreat
/- Words for a thing: the walk. -/
namespace Go.Proofs.YtdhbpklmkibmbaaGreat
open Go.Vc

section
variable {c : Cfg} {p : HP} {hb ob : Nat} {z : Nat → Nat} {s : HS} {t : Th} {op : List Int}
def thL (t : Th) (rv dv : Value) : List Value := [.int .i64 t.st, rv, dv]
theorem Size_len {t : Th} (ra da : Option Addr) (rc dc : Nat) (w : World) : CallC Pr f_gleanerref14_Thing_Size [.agg #[.int .i64 t.st, .slice ra t.refs.length rc, .slice da t.data.length dc]] w (fun r w' => r = .int .i64 (szW t) ∧ Fr No w w') := by
  refine call_sound T_ok fun_gleanerref14_Thing_Size rfl (by kernel_rfl) rfl (Kp ?_)
  refine NewC_blk (fun p w1 hp b1 f1 s1 => ?_)
  have b1 : Blk w1 p t_gleanerref14_Thing [.int .i64 t.st, .slice ra t.refs.length rc, .slice da t.data.length dc] := b1
  refine LdC_blk (b1) rfl ?_
  refine LdC_blk (b1) rfl ?_
  exact ⟨rfl, f1⟩
theorem bumpF_ok {P r n : Int} {rs : List R} (h : (bumpF P r n rs).2.1 = 0) : ∃ x, 0 ≤ r ∧ rs[r.toNat]? = some x ∧ plainP x.1 ∧ n ≤ P - x.2.1 ∧ bumpF P r n rs = (r * P + x.2.1, 0, rs.set r.toNat (x.1, x.2.1 + n, x.2.2)) := by
  unfold bumpF at h ⊢
  cases hx : rget rs r with
  | none => rw [hx] at h; cases h
  | some x =>
    rw [hx] at h
    dsimp only at h ⊢
    obtain ⟨h0, _, h1⟩ := rget_some hx
    by_cases c1 : n < 1
    · rw [if_pos c1] at h; cases h
    rw [if_neg c1] at h ⊢
    by_cases c2 : plainP x.1
    · rw [if_neg (not_not_intro c2)] at h ⊢
      by_cases c3 : n > P - x.2.1
      · rw [if_pos c3] at h; cases h
      · rw [if_neg c3]
        exact ⟨x, h0, h1, c2, by omega, rfl⟩
    · rw [if_pos c2] at h; cases h
theorem bumpF_no {P r n : Int} {rs : List R} (h : (bumpF P r n rs).2.1 ≠ 0) : (bumpF P r n rs).2.2 = rs := by
  unfold bumpF at h ⊢
  split
  · rfl
  · rename_i x hx
    rw [hx] at h
    dsimp only at h
    split
    · rfl
    · rename_i c1
      rw [if_neg c1] at h
      split
      · rfl
      · rename_i c2
        rw [if_neg c2] at h
        split
        · rfl
        · rename_i c3
          rw [if_neg c3] at h
          exact absurd rfl h
/-- What room comes to. -/
def RoomR (w w' : World) (z : Nat → Nat) (c : Cfg) (hb : Nat) (p : HP) (s : HS) (ob : Nat) (op : List Int) (t : Th) (r : Value) : Prop :=
  ∃ (a : Int) (ok : Bool), r = .tuple #[.int .i64 a, .bool ok] ∧ Fr (fun k => z k = 3 ∨ k = ob) w w' ∧ (ok = true → ∃ op' rs', Room c t.st t.size op s.rs a op' rs' ∧ HeapAt w' z c hb p (s.regs rs') ∧ Blk w' ob t_int (ints op'))
theorem room_spec {tv : List Value} (w : World) (h : HeapAt w z c hb p s) (ho : Blk w ob t_int (ints op)) (hol : op.length = 4) (zob : z ob = 321) (hne : ob ≠ hb) (ht : ThV w t tv) (es : szW t = t.size) (hst : 1 ≤ t.st ∧ t.st ≤ 4) (hn : 1 ≤ t.size ∧ t.size ≤ 1048576) :
    CallC Pr f_gleanerlaw14_room [ptr hb, .slice (some ⟨ob, 0, none⟩) 4 4, .agg tv.toArray] w (fun r w' => RoomR w w' z c hb p s ob op t r) := by
  obtain ⟨rv, dv, etv, hrv, hdv⟩ := id ht
  subst etv
  obtain ⟨ra, rc, rfl, _⟩ := id hrv
  obtain ⟨da, dc, rfl, _⟩ := id hdv
  have zo : z ob ≠ 3 := by rw [zob]; decide
  have hV := h.ok
  have hP := P_le hV
  have hsz : ∀ w', Fr No w w' → CallC Pr f_gleanerref14_Thing_Size [.agg #[.int .i64 t.st, .slice ra t.refs.length rc, .slice da t.data.length dc]] w' (fun r w'' => r = .int .i64 t.size ∧ Fr No w' w'') := fun w' f => by
    have := Size_any w' (ht.keep f)
    rw [es] at this
    exact this
  obtain ⟨rr, hR, zrb, zrr⟩ := h.regs
  have zhb := h.tabz
  have nhb : z hb ≠ 3 := by rw [zhb]; decide
  refine callU_sound T_ok fun_gleanerlaw14_room rfl (by kernel_rfl) rfl (Kp ?_)
  refine NewC_blk (fun p5 w1 e_p5 b1 f1 s1 => ?_)
  have b1 : Blk w1 p5 t_gleanerref14_Thing [.int .i64 t.st, .slice ra t.refs.length rc, .slice da t.data.length dc] := b1
  have t1 := h.tab.keep f1 id
  have o1 := ho.keep f1 id
  have R1 := hR.keep f1 id id
  have h1 := h.no f1
  have szw := f1.size
  have np5 : p5 ≠ rr := fun e => by have := hR.row.lt; omega
  refine Cut_no ?_
  refine LdC_blk (b1) rfl ?_
  refine Br_dec (fun g => ?_) (fun g => ?_)
  · have g : t.st = 4 := g
    have D1 : Fr No w1 w1.drew := Fr.drew w1
    have thC : ∀ {w'}, Fr No w1 w' → Blk w' hb t_heap_Heap (heapL c p) ∧ Blk w' p5 t_gleanerref14_Thing [.int .i64 t.st, .slice ra t.refs.length rc, .slice da t.data.length dc] := fun f => ⟨t1.keep f id, b1.keep f id⟩
    refine AnyC_plan T_ok mixed (planO [0,1,2,3,4,5,6,7,8,11,1009,1010,1012,1013,14,15,16,17,18]) ((fun w' => Blk w' hb t_heap_Heap (heapL c p) ∧ Blk w' p5 t_gleanerref14_Thing [.int .i64 t.st, .slice ra t.refs.length rc, .slice da t.data.length dc])) (by kernel_rfl) (by kernel_rfl) ((thC (Fr.drew _))) (Kp ?_)
    refine LdS_of (fun w' hw => hw.1) rfl (Kp ?_)
    refine LdSN_of (vs := geoC c) (fun w' hw => hw.1) rfl rfl (Kp ?_)
    refine LdSN_of (vs := [.int .i64 t.st, .slice ra t.refs.length rc, .slice da t.data.length dc]) (fun w' hw => hw.2) rfl rfl (Kp ?_)
    refine LdSN_of (vs := [.int .i64 t.st, .slice ra t.refs.length rc, .slice da t.data.length dc]) (fun w' hw => hw.2) rfl rfl (Kp ?_)
    refine ⟨Kp ?_, trivial⟩
    refine CallC_intro (hsz _ (f1.no D1)) (fun v w2 ⟨hv, f2⟩ => ?_)
    subst hv
    have g2 := D1.no f2
    refine Sd_intro (thC g2) (Kp ?_)
    refine ⟨Kp ?_, trivial⟩
    refine CallC_intro (Span_C hV t.size _ (by omega) (by omega)) (fun v w3 ⟨hv, f3⟩ => ?_)
    subst hv
    have g3 := g2.no f3
    refine Sd_intro (thC g3) (Kp ?_)
    refine ⟨Kp ?_, trivial⟩
    refine CallC_intro (hsz _ (f1.no g3)) (fun v w4 ⟨hv, f4⟩ => ?_)
    subst hv
    have g4 := g3.no f4
    refine Sd_intro (thC g4) (Kp ?_)
    refine ⟨Kp ?_, trivial⟩
    have hsp : spanC c t.size = (t.size - 1) / P c + 1 := by unfold spanC; rw [if_neg (by omega)]
    have q0 : 0 ≤ (t.size - 1) / P c := Int.ediv_nonneg (by omega) (by omega)
    have R4 := R1.keep g4 id id
    have h4 := h1.no g4
    have o4 := o1.keep g4 id
    have F4 := f1.no g4
    refine CallC_intro (Run_spec (spanC c t.size) t.size _ R4 (by omega) hn.1 (by omega) (by omega) (by omega)) (fun v w5 hv => ?_)
    have nr : ∀ {k : Nat} {w'}, Fr (· = rr) w4 w' → k ≠ rr → k < w4.heap.size → True := fun _ _ _ => trivial
    clear nr
    have nhr : hb ≠ rr := fun e => nhb (e ▸ zrr)
    have nor : ob ≠ rr := fun e => zo (e ▸ zrr)
    rcases hv with ⟨k, rs', fr, _, hh, hv, R5, f5⟩ | ⟨_, hv, R5, f5⟩
    · subst hv
      have t5 := (t1.keep g4 id).keep f5 nhr
      have b5 := (b1.keep g4 id).keep f5 np5
      refine Sd_intro ⟨t5, b5⟩ (Kp ?_)
      have k0 : 0 ≤ k := fr.1
      have k1 : k < c.c1 := by have := fr.2.1; have := h.rsl; omega
      refine LdN_blk (vs := geoC c) (t5) rfl rfl ?_
      refine CallC_intro (Base_C hV k w5) (fun v w6 ⟨hv, f6⟩ => ?_)
      rw [if_neg (by omega)] at hv
      subst hv
      have fr' : Fr (fun k => z k = 3 ∨ k = ob) w w6 := by
        have f45 : Fr (fun k => z k = 3 ∨ k = ob) w4 w5 := f5.weak (fun k _ e => .inl (by rw [e]; exact zrr))
        exact (F4.noL f45).same (f6.weak (fun _ _ e => e.elim))
      have m5 : Mv z z (· = 3) w4 w5 := Mv.ofZ f5 (fun k _ e => by rw [e]; exact zrr)
      have h5 := h4.setRegs m5 ⟨rr, R5, zrb, zrr⟩ (by rw [hh.1]; exact h.rsl)
      exact ⟨_, true, rfl, fr', fun _ => ⟨op, rs', Room.big k rs' g fr hh, h5.no f6, (o4.keep f5 nor).keep f6 id⟩⟩
    · subst hv
      have t5 := (t1.keep g4 id).keep f5 id
      have b5 := (b1.keep g4 id).keep f5 id
      refine Sd_intro ⟨t5, b5⟩ (Kp ?_)
      refine LdN_blk (vs := geoC c) (t5) rfl rfl ?_
      have r0 := hV.r0
      refine CallC_intro (Base_C hV 0 w5) (fun v w6 ⟨hv, f6⟩ => ?_)
      rw [if_neg (by omega)] at hv
      subst hv
      exact ⟨_, false, rfl, ((F4.no f5).no f6).weak (fun _ _ e => e.elim), fun e => by cases e⟩
  have g : ¬ t.st = 4 := g
  have hpl : plainP t.st := ⟨hst.1, by omega⟩
  obtain ⟨r, hr⟩ : ∃ r, op[t.st.toNat]? = some r := ⟨_, List.getElem?_eq_getElem (by omega)⟩
  refine LdC_blk (b1) rfl ?_
  refine Sd_intro (show 0 ≤ t.st ∧ t.st < 4 by omega) (Kp ?_)
  refine LdC_idx (v := .int .i64 r) o1 (by rw [Nat.mul_one, Nat.zero_add]; exact ints_get? hr) (Kp ?_)
  refine Cut (α := Int × Int) (fun x => [(0, ptr hb), (1, .slice (some ⟨ob, 0, none⟩) 4 4), (5, .pointer (some ⟨p5, 0, none⟩)), (13, .int .i64 x.1), (14, .int .i64 x.2)])
    (fun x w' => Fr (· = rr) w1 w' ∧ ((x.2 = 0 ∧ ∃ rs', Room c t.st t.size op s.rs x.1 op rs' ∧ HeapAt w' z c hb p (s.regs rs')) ∨ (x.2 ≠ 0 ∧ HeapAt w' z c hb p s))) ?_ (fun x w2 hJ => Kp ?_)
  · refine Br_dec (fun g1 => ?_) (fun g1 => ?_)
    · have g1 : r ≥ 0 := g1
      have D1 : Fr No w1 w1.drew := Fr.drew w1
      have thC : ∀ {w'}, Fr No w1 w' → Blk w' hb t_heap_Heap (heapL c p) ∧ Blk w' p5 t_gleanerref14_Thing [.int .i64 t.st, .slice ra t.refs.length rc, .slice da t.data.length dc] := fun f => ⟨t1.keep f id, b1.keep f id⟩
      refine AnyC_plan T_ok mixed (planO [0,1,2,3,4,5,1006,1007,8,9,10,11,12]) ((fun w' => Blk w' hb t_heap_Heap (heapL c p) ∧ Blk w' p5 t_gleanerref14_Thing [.int .i64 t.st, .slice ra t.refs.length rc, .slice da t.data.length dc])) (by kernel_rfl) (by kernel_rfl) ((thC (Fr.drew _))) (Kp ?_)
      refine LdS_of (fun w' hw => hw.1) rfl (Kp ?_)
      refine LdSN_of (vs := [.int .i64 t.st, .slice ra t.refs.length rc, .slice da t.data.length dc]) (fun w' hw => hw.2) rfl rfl (Kp ?_)
      refine ⟨Kp ?_, trivial⟩
      refine CallC_intro (hsz _ (f1.no D1)) (fun v w2 ⟨hv, f2⟩ => ?_)
      subst hv
      have g2 := D1.no f2
      refine Sd_intro (thC g2) (Kp ?_)
      refine ⟨Kp ?_, trivial⟩
      refine CallC_intro (Bump_any r t.size _ (R1.keep g2 id id)) (fun v w3 ⟨hv, R3, f3⟩ => ?_)
      subst hv
      have nhr : hb ≠ rr := fun e => nhb (e ▸ zrr)
      refine Sd_intro ⟨(t1.keep g2 id).keep f3 nhr, (b1.keep g2 id).keep f3 np5⟩ (Kp ?_)
      refine ⟨((bumpF (P c) r t.size s.rs).1, (bumpF (P c) r t.size s.rs).2.1), ⟨rfl, rfl, rfl, rfl, rfl, trivial⟩, g2.noL f3, ?_⟩
      have m3 : Mv z z (· = 3) w2 w3 := Mv.ofZ f3 (fun k _ e => by rw [e]; exact zrr)
      have hl : (((bumpF (P c) r t.size s.rs).2.2.length : Nat) : Int) = c.c1 := by
        by_cases e : (bumpF (P c) r t.size s.rs).2.1 = 0
        · obtain ⟨x, _, _, _, _, e2⟩ := bumpF_ok e
          rw [e2, List.length_set]; exact h.rsl
        · rw [bumpF_no e]; exact h.rsl
      have h3 := (h1.no g2).setRegs m3 ⟨rr, R3, zrb, zrr⟩ hl
      by_cases e : (bumpF (P c) r t.size s.rs).2.1 = 0
      · left
        obtain ⟨x, x0, x1, x2, x3, e2⟩ := bumpF_ok e
        refine ⟨e, _, ?_, h3⟩
        rw [e2]
        exact Room.bump r x hpl hr x0 x1 x2 x3
      · right
        rw [bumpF_no e] at h3
        exact ⟨e, h3⟩
    · exact ⟨(0, 6), ⟨rfl, rfl, rfl, rfl, rfl, trivial⟩, Fr.refl _ _, .inr ⟨by decide, h1⟩⟩
  obtain ⟨at1, e1⟩ := x
  obtain ⟨f2, hJ⟩ := hJ
  have nor : ob ≠ rr := fun e => zo (e ▸ zrr)
  have nhr : hb ≠ rr := fun e => nhb (e ▸ zrr)
  have b2 := b1.keep f2 np5
  have t2 := t1.keep f2 nhr
  have o2 := o1.keep f2 nor
  have F2 : Fr (fun k => z k = 3 ∨ k = ob) w w2 := f1.noL (f2.weak (fun k _ e => .inl (by rw [e]; exact zrr)))
  refine Cut_no ?_
  refine Br_dec (fun g1 => ?_) (fun g1 => ?_)
  · have g1 : e1 = 0 := g1
    rcases hJ with ⟨_, rs', hR', h2⟩ | ⟨e, _⟩
    · exact ⟨at1, true, rfl, F2, fun _ => ⟨op, rs', hR', h2, o2⟩⟩
    · exact absurd g1 e
  have g1 : ¬ e1 = 0 := g1
  have h2 : HeapAt w2 z c hb p s := by
    rcases hJ with ⟨e, _⟩ | ⟨_, h2⟩
    · exact absurd e g1
    · exact h2
  obtain ⟨rr2, hR2, _, zrr2⟩ := h2.regs
  have D2 : Fr No w2 w2.drew := Fr.drew w2
  have thC : ∀ {w'}, Fr No w2 w' → Blk w' hb t_heap_Heap (heapL c p) ∧ Blk w' p5 t_gleanerref14_Thing [.int .i64 t.st, .slice ra t.refs.length rc, .slice da t.data.length dc] := fun f => ⟨t2.keep f id, b2.keep f id⟩
  have err : rr2 = rr := by
    have q1 := (R1.tab.keep f2 R1.ne)
    have q2 := (q1.inj hR2.tab).1
    simp only [List.cons.injEq, Value.slice.injEq, Option.some.injEq, Addr.mk.injEq] at q2
    exact q2.2.1.1.1.symm
  subst err
  refine AnyC_plan T_ok mixed (planO [0,1,2,3,4,5,1006,7,8,9,10,11]) ((fun w' => Blk w' hb t_heap_Heap (heapL c p) ∧ Blk w' p5 t_gleanerref14_Thing [.int .i64 t.st, .slice ra t.refs.length rc, .slice da t.data.length dc])) (by kernel_rfl) (by kernel_rfl) ((thC (Fr.drew _))) (Kp ?_)
  refine LdS_of (fun w' hw => hw.1) rfl (Kp ?_)
  refine LdS_of (fun w' hw => hw.2) rfl (Kp ?_)
  refine ⟨Kp ?_, trivial⟩
  refine CallC_intro (Claim_spec t.st _ (hR2.keep D2 id id) hpl) (fun v w3 ⟨rs1, hcl, R3, f3⟩ => ?_)
  have t3 := (t2.keep D2 id).keep f3 nhr
  have b3 := (b2.keep D2 id).keep f3 np5
  have o3 := (o2.keep D2 id).keep f3 nor
  have f23 := D2.noL f3
  have F3 : Fr (fun k => z k = 3 ∨ k = ob) w w3 := F2.same (f23.weak (fun k _ e => .inl (by rw [e]; exact zrr)))
  rcases hcl with ⟨k, x, hx, hx0, _, hrs, hv⟩ | ⟨_, hrs, hv⟩
  rotate_left
  · subst hv
    refine Sd_intro ⟨t3, b3⟩ (Kp ?_)
    refine Cut_no ?_
    exact ⟨_, false, rfl, F3, fun e => by cases e⟩
  subst hv
  refine Sd_intro ⟨t3, b3⟩ (Kp ?_)
  refine Cut_no ?_
  refine LdC_blk (b3) rfl ?_
  refine Sd_intro (show 0 ≤ t.st ∧ t.st < 4 by omega) (Kp ?_)
  refine StC_idx o3 rfl (by rw [Nat.mul_one, Nat.zero_add]; exact ints_get? hr) (fun w4 o4 f4 s4 => ?_)
  have o4 : Blk w4 ob t_int (ints (op.set t.st.toNat k)) := by
    rw [Nat.mul_one, Nat.zero_add] at o4
    have e : (ints op).set t.st.toNat (.int .i64 k) = ints (op.set t.st.toNat k) := by simp [ints, List.map_set]
    rw [← e]; exact o4
  have hbob : hb ≠ ob := fun e => hne e.symm
  have np5o : p5 ≠ ob := fun e => by have := ho.lt; omega
  have t4 := t3.keep f4 hbob
  have b4 := b3.keep f4 np5o
  have R4 := R3.keep f4 (fun e => zo (by rw [← e]; exact zrb)) (fun e => zo (by rw [← e]; exact zrr))
  have D4 : Fr No w4 w4.drew := Fr.drew w4
  have thC4 : ∀ {w'}, Fr No w4 w' → Blk w' hb t_heap_Heap (heapL c p) ∧ Blk w' p5 t_gleanerref14_Thing [.int .i64 t.st, .slice ra t.refs.length rc, .slice da t.data.length dc] := fun f => ⟨t4.keep f id, b4.keep f id⟩
  refine AnyC_plan T_ok mixed (planO [0,1,2,3,4,5,1006,1007,8,9,10,11,12]) ((fun w' => Blk w' hb t_heap_Heap (heapL c p) ∧ Blk w' p5 t_gleanerref14_Thing [.int .i64 t.st, .slice ra t.refs.length rc, .slice da t.data.length dc])) (by kernel_rfl) (by kernel_rfl) ((thC4 (Fr.drew _))) (Kp ?_)
  refine LdS_of (fun w' hw => hw.1) rfl (Kp ?_)
  refine LdSN_of (vs := [.int .i64 t.st, .slice ra t.refs.length rc, .slice da t.data.length dc]) (fun w' hw => hw.2) rfl rfl (Kp ?_)
  refine ⟨Kp ?_, trivial⟩
  refine CallC_intro (Size_len ra da rc dc _) (fun v w5 ⟨hv, f5⟩ => ?_)
  rw [es] at hv
  subst hv
  have g5 := D4.no f5
  refine Sd_intro (thC4 g5) (Kp ?_)
  refine ⟨Kp ?_, trivial⟩
  refine CallC_intro (Bump_any k t.size _ (R4.keep g5 id id)) (fun v w6 ⟨hv, R6, f6⟩ => ?_)
  subst hv
  refine Sd_intro ⟨(t4.keep g5 id).keep f6 nhr, (b4.keep g5 id).keep f6 np5⟩ (Kp ?_)
  have F4 : Fr (fun k => z k = 3 ∨ k = ob) w w4 := F3.same (f4.weak (fun k _ e => .inr e))
  have F6 : Fr (fun k => z k = 3 ∨ k = ob) w w6 := (F4.same (g5.weak (fun _ _ e => e.elim))).same (f6.weak (fun k _ e => .inl (by rw [e]; exact zrr)))
  refine ⟨_, _, rfl, F6, fun e => ?_⟩
  have e : (bumpF (P c) k t.size rs1).2.1 = 0 := of_decide_eq_true e
  obtain ⟨y, _, y1, _, y3, e2⟩ := bumpF_ok e
  have hk : k < s.rs.length := (List.getElem?_eq_some_iff.1 hx).1
  subst hrs
  rw [show ((k : Int)).toNat = k by omega] at y1 e2
  rw [List.getElem?_set_self hk] at y1
  injection y1 with y1
  subst y1
  rw [e2] at R6 ⊢
  rw [List.set_set] at R6
  have m3 : Mv z z (· = 3) w2 w3 := Mv.ofZ f23 (fun k _ e => by rw [e]; exact zrr)
  have h3 := h2.setRegs m3 ⟨_, R3, zrb, zrr⟩ (by rw [List.length_set]; exact h.rsl)
  have m4 : Mv z z (· = 321) w3 w4 := Mv.ofZ f4 (fun k _ e => by rw [e]; exact zob)
  have h4 := h3.mv m4 (fun i hi e => by omega)
  have m6 : Mv z z (· = 3) w5 w6 := Mv.ofZ f6 (fun k _ e => by rw [e]; exact zrr)
  have h6 := (h4.no g5).setRegs m6 ⟨_, R6, zrb, zrr⟩ (by rw [List.length_set]; exact h.rsl)
  exact ⟨_, _, Room.claim k x hpl hx hx0 y3, h6, (o4.keep g5 id).keep f6 nor⟩
end
end Go.Proofs.YtdhbpklmkibmbaaGreat
/- A plan's heap, in plain Lean. -/
namespace Go.Proofs.YtdhbpklmkibmbaaGreat
open Go.Vc

/-- The first k of a row, and zeros. -/
def fillTo (l : List Int) (k : Nat) : List Int := l.take k ++ List.replicate (l.length - k) 0
theorem fillTo_len (l : List Int) (k : Nat) : (fillTo l k).length = l.length := by
  unfold fillTo
  rw [List.length_append, List.length_take, List.length_replicate]; omega
theorem fillTo_zero (l : List Int) : fillTo l 0 = List.replicate l.length 0 := by simp [fillTo]
theorem fillTo_all (l : List Int) : fillTo l l.length = l := by simp [fillTo]
theorem fillTo_set {l : List Int} {k : Nat} {x : Int} (h : l[k]? = some x) : (fillTo l k).set k x = fillTo l (k + 1) := by
  have hk := (List.getElem?_eq_some_iff.1 h).1
  apply List.ext_getElem?
  intro i
  unfold fillTo
  by_cases e : k = i
  · subst e
    rw [List.getElem?_set_self (by rw [List.length_append, List.length_take, List.length_replicate]; omega), List.getElem?_append_left (by rw [List.length_take]; omega), List.getElem?_take, if_pos (by omega), h]
  · rw [List.getElem?_set_ne e]
    by_cases q : i < k
    · rw [List.getElem?_append_left (by rw [List.length_take]; omega), List.getElem?_append_left (by rw [List.length_take]; omega), List.getElem?_take, List.getElem?_take, if_pos q, if_pos (by omega)]
    · rw [List.getElem?_append_right (by rw [List.length_take]; omega), List.getElem?_append_right (by rw [List.length_take]; omega), List.length_take, List.length_take, List.getElem?_replicate, List.getElem?_replicate]
      by_cases q2 : i < l.length
      · rw [if_pos (by omega), if_pos (by omega)]
      · rw [if_neg (by omega), if_neg (by omega)]
/-- An object's words. -/
def objW (rf dt : List Int) : List Int := headW (((1 + rf.length + dt.length : Nat)) : Int) (rf.length : Int) 0 :: (rf ++ dt)
theorem objW_len (rf dt : List Int) : (objW rf dt).length = 1 + rf.length + dt.length := by
  unfold objW
  rw [List.length_cons, List.length_append]; omega
theorem objW_ok {rf dt : List Int} (h : 1 + rf.length + dt.length ≤ 1048576) : ObjW (objW rf dt) rf.length := by
  refine ⟨?_, by rw [objW_len]; omega, by rw [objW_len]; exact h⟩
  rw [objW_len]; rfl
theorem objW_setR {rf dt : List Int} {k : Nat} (x : Int) (hk : k < rf.length) : (objW rf dt).set (1 + k) x = objW (rf.set k x) dt := by
  unfold objW
  rw [show 1 + k = k + 1 by omega, List.set_cons_succ, List.set_append_left _ _ hk, List.length_set]
theorem objW_setD {rf dt : List Int} {k : Nat} (x : Int) (_hk : k < dt.length) : (objW rf dt).set (1 + rf.length + k) x = objW rf (dt.set k x) := by
  unfold objW
  rw [show 1 + rf.length + k = rf.length + k + 1 by omega, List.set_cons_succ, List.set_append_right _ _ (by omega), List.length_set, show rf.length + k - rf.length = k by omega]
theorem obB_objW {a : Int} {rf dt : List Int} (h : 1 + rf.length + dt.length ≤ 1048576) : obB (a, objW rf dt) = ⟨a, rf, dt⟩ := by
  unfold obB
  dsimp only
  rw [(objW_ok h).ptB]
  unfold objW
  rw [show 1 + rf.length = rf.length + 1 by omega]
  simp
/-- What Make writes. -/
theorem made_seg {ws : List Int} {a : Int} {p d : Nat} (h0 : 0 ≤ a) (h1 : a + (1 + p + d : Nat) ≤ (ws.length : Int)) : Seg (made ws a ((1 + p + d : Nat) : Int) (p : Int)) a (objW (List.replicate p 0) (List.replicate d 0)) := by
  refine ⟨h0, fun j x hx => ?_⟩
  have hj := (List.getElem?_eq_some_iff.1 hx).1
  rw [objW_len, List.length_replicate, List.length_replicate] at hj
  unfold made
  rw [show (((1 + p + d : Nat)) : Int).toNat = 1 + p + d by omega]
  unfold objW at hx
  by_cases e : j = 0
  · subst e
    rw [List.length_replicate, List.length_replicate] at hx
    have hx : some (headW ((1 + p + d : Nat) : Int) (p : Int) 0) = some x := hx
    rw [Nat.add_zero, List.getElem?_set_self (by rw [zeroed_len]; omega)]; exact hx
  · rw [List.getElem?_set_ne (by omega), zeroed_get _ _ _ _ (by omega), if_pos (by omega)]
    obtain ⟨i, rfl⟩ : ∃ i, j = i + 1 := ⟨j - 1, by omega⟩
    rw [List.getElem?_cons_succ] at hx
    have := List.mem_of_getElem? hx
    rcases List.mem_append.1 this with q | q
    · rw [(List.mem_replicate.1 q).2]
    · rw [(List.mem_replicate.1 q).2]
theorem made_out {ws : List Int} {a n p : Int} (h0 : 0 ≤ a) (h1 : 1 ≤ n) : ∀ x : Int, 0 ≤ x → (x < a ∨ a + n ≤ x) → (made ws a n p)[x.toNat]? = ws[x.toNat]? := by
  intro x x0 hx
  unfold made
  rw [List.getElem?_set_ne (by omega)]
  by_cases q : x.toNat < ws.length
  · rw [zeroed_get _ _ _ _ q, if_neg (by omega)]
  · rw [List.getElem?_eq_none (by rw [zeroed_len]; omega), List.getElem?_eq_none (by omega)]
theorem made_len (ws : List Int) (a n p : Int) : (made ws a n p).length = ws.length := by unfold made; rw [List.length_set, zeroed_len]
/-- References by addresses. -/
def phiA (at_ : List Int) (r : Int) : Int := if r = 0 then 0 else (at_[r.toNat - 1]?).getD 0 + 1
/-- The objects of things. -/
def Fil (at_ : List Int) (ts : List Th) (g : Nat → Th → List Int) (B : List LObj) : Prop := B.length = at_.length ∧ ∀ (j : Nat) (a : Int) (t : Th), at_[j]? = some a → ts[j]? = some t → B[j]? = some (a, g j t)
/-- Ahead of linking, and behind it. -/
def rawW (t : Th) : List Int := objW (List.replicate t.refs.length 0) t.data
def linW (at_ : List Int) (t : Th) : List Int := objW (t.refs.map (phiA at_)) t.data
theorem linW_len (at_ : List Int) (t : Th) : (linW at_ t).length = 1 + t.refs.length + t.data.length := by unfold linW; rw [objW_len, List.length_map]
theorem rawW_len (t : Th) : (rawW t).length = 1 + t.refs.length + t.data.length := by unfold rawW; rw [objW_len, List.length_replicate]
section
variable {p : Pl} {at_ : List Int} {B : List LObj}
/-- A reference leads to an object. -/
theorem Fil.known {g : Nat → Th → List Int} (hf : Fil at_ p.ts g B) (hl : at_.length = p.ts.length) {l : List Int} (h : ∀ r ∈ l, 0 ≤ r ∧ r ≤ p.ts.length) : KnownL B (l.map (phiA at_)) := by
  intro r hr
  obtain ⟨q, hq, rfl⟩ := List.mem_map.1 hr
  obtain ⟨h0, h1⟩ := h q hq
  unfold phiA
  by_cases e : q = 0
  · exact .inl (by rw [if_pos e])
  · right
    have hi : q.toNat - 1 < at_.length := by omega
    have ha : at_[q.toNat - 1]? = some (at_[q.toNat - 1]'hi) := List.getElem?_eq_getElem hi
    have ht : p.ts[q.toNat - 1]? = some (p.ts[q.toNat - 1]'(by omega)) := List.getElem?_eq_getElem (by omega)
    refine ⟨_, List.mem_of_getElem? (hf.2 _ _ _ ha ht), ?_⟩
    rw [if_neg e, ha]; rfl
theorem Fil.get {g : Nat → Th → List Int} (hf : Fil at_ p.ts g B) (hl : at_.length = p.ts.length) {b : LObj} (hb : b ∈ B) : ∃ (j : Nat) (a : Int) (t : Th), at_[j]? = some a ∧ p.ts[j]? = some t ∧ B[j]? = some b ∧ b = (a, g j t) := by
  obtain ⟨j, hj, e⟩ := List.getElem_of_mem hb
  have h1 := hf.1
  have ha : at_[j]? = some (at_[j]'(by omega)) := List.getElem?_eq_getElem (by omega)
  have ht : p.ts[j]? = some (p.ts[j]'(by omega)) := List.getElem?_eq_getElem (by omega)
  have hb' : B[j]? = some b := by rw [List.getElem?_eq_getElem hj, e]
  have := hf.2 j _ _ ha ht
  rw [hb'] at this
  injection this with this
  exact ⟨j, _, _, ha, ht, hb', this⟩
end
end Go.Proofs.YtdhbpklmkibmbaaGreat
/- A plan is built: references, homes, links. -/
namespace Go.Proofs.YtdhbpklmkibmbaaGreat
open Go.Vc

section
variable {w w' : World} {z z' : Nat → Nat} {c : Cfg} {hb : Nat} {p : HP} {s : HS}
theorem HeapAt.setOffs {back' : List Int} (h : HeapAt w z c hb p s) (m : Mv z z' (· = 4) w w') (hr : OffsIn w' z' 4 p.ob (c.c1 * P c) (Q c) back') : HeapAt w' z' c hb p { s with back := back' } := by
  have c3 := h.c3
  have hbl := h.bsl
  have h1 := h.tab.mv h.tabz m (by decide)
  have h2 := own_mv h.rootr h.rootz m (by decide)
  have h3 := h.bufr.mv h.bufz m (by decide)
  exact ⟨h.ok, h1.1, h1.2, h.arena.mv m (by decide), h.wsl, h.regs.mv m (by decide), h.rsl, hr, h.cards.mv m (by decide), h.queue.mv m (by decide) (fun t _ e => by omega), h.ownl, h.sets.mv m (by decide), h.marks.mv m (by decide), h2.1, h2.2, hbl, h.refl,
    fun t b l hb hl => (h.stacks t b l hb hl).mv m (fun e => by omega), h3.1, h3.2, h.bufl⟩
theorem HeapAt.setSets {A' : Abs} (h : HeapAt w z c hb p s) (m : Mv z z' (· = 7) w w') (hr : SetsIn w' z' 7 p.sb c.c1 (P c / Q c) A') : HeapAt w' z' c hb p { s with sets := A' } := by
  have c3 := h.c3
  have hbl := h.bsl
  have h1 := h.tab.mv h.tabz m (by decide)
  have h2 := own_mv h.rootr h.rootz m (by decide)
  have h3 := h.bufr.mv h.bufz m (by decide)
  exact ⟨h.ok, h1.1, h1.2, h.arena.mv m (by decide), h.wsl, h.regs.mv m (by decide), h.rsl, h.offs.mv m (by decide), h.cards.mv m (by decide), h.queue.mv m (by decide) (fun t _ e => by omega), h.ownl, hr, h.marks.mv m (by decide), h2.1, h2.2, hbl, h.refl,
    fun t b l hb hl => (h.stacks t b l hb hl).mv m (fun e => by omega), h3.1, h3.2, h.bufl⟩
end
def HS.put (s : HS) (acc : Int) (ws back : List Int) (A : Abs) : HS := { s with acc := acc, ws := ws, back := back, sets := A }
/-- Blocks of a set, to zones. -/
noncomputable def zset (z : Nat → Nat) (n : Nat) (B : Nat → Prop) (i : Nat) : Nat → Nat := fun k => @ite _ (n ≤ k ∧ B k) (Classical.propDecidable _) i (z k)
theorem zset_old {z : Nat → Nat} {n i k : Nat} {B : Nat → Prop} (h : k < n) : zset z n B i k = z k := by unfold zset; rw [if_neg (by omega)]
theorem zset_new {z : Nat → Nat} {n i k : Nat} {B : Nat → Prop} (h : n ≤ k) (hB : B k) : zset z n B i k = i := by unfold zset; rw [if_pos ⟨h, hB⟩]
theorem per_cfg {c : Cfg} (hV : Valid c) : RCfg c.c1 (P c / Q c) := by
  have hP := P_le hV
  have r0 := hV.r0
  have hm : Q c * (P c / Q c) = P c := Int.mul_ediv_cancel' (Int.dvd_of_emod_eq_zero (QP_dvd hV))
  have h1 : 1 ≤ P c / Q c := (Int.le_ediv_iff_mul_le (by omega)).2 (by omega)
  have h2 : P c / Q c ≤ P c := Int.ediv_le_self _ (by omega)
  have h3 : c.c1 * (P c / Q c) ≤ c.c1 * P c := Int.mul_le_mul_of_nonneg_left h2 (by omega)
  exact ⟨h1, by omega, hV.r1, by omega⟩
theorem card_reg {c : Cfg} (hV : Valid c) (x : Int) : x / Q c / (P c / Q c) = x / P c := by
  have hP := P_le hV
  rw [Int.ediv_ediv_of_nonneg (by omega)]
  congr 1
  exact Int.mul_ediv_cancel' (Int.dvd_of_emod_eq_zero (QP_dvd hV))
/-- A card is added to a set. -/
theorem Sets_Add_H {w : World} {z : Nat → Nat} {c : Cfg} {hb : Nat} {p : HP} {s : HS} (hm cd : Int) (h : HeapAt w z c hb p s) :
    CallC Pr f_remset_Sets_Add [ptr p.sb, .int .i64 hm, .int .i64 cd] w (fun v w' => v = .tuple #[.bool (addA c.c1 (P c / Q c) s.sets hm cd).1, .int .i64 (addA c.c1 (P c / Q c) s.sets hm cd).2.1] ∧
      ∃ z', HeapAt w' z' c hb p { s with sets := (addA c.c1 (P c / Q c) s.sets hm cd).2.2 } ∧ Mv z z' (· = 7) w w') := by
  refine CallC_mk (Calls.mono (CallC_elim (Add_RS (per_cfg h.ok) hm cd h.sets)) fun e w' ⟨v, he, hv, ⟨B', hB, hB'⟩, f⟩ => ⟨v, he, hv, ?_⟩)
  have m : Mv z (zset z w.heap.size B' 7) (· = 7) w w' := ⟨f, fun k hk => zset_old hk⟩
  refine ⟨zset z w.heap.size B' 7, h.setSets m (RS.sub hB fun x hx => ?_), m⟩
  by_cases q : w.heap.size ≤ x
  · exact zset_new q hx
  · rw [zset_old (by omega)]
    exact (hB' x hx).resolve_right q
def bltL (hb : Nat) (av : Value) : List Value := [ptr hb, av]
theorem phiA_get {at_ : List Int} {r a : Int} (h : r ≠ 0) (ha : at_[r.toNat - 1]? = some a) : phiA at_ r = a + 1 := by
  unfold phiA
  rw [if_neg h, ha]; rfl
theorem phiA_bd {at_ : List Int} (hb : ∀ a ∈ at_, 0 ≤ a ∧ a ≤ 4194304) {r : Int} (h0 : 0 ≤ r) (h1 : r ≤ at_.length) : 0 ≤ phiA at_ r ∧ phiA at_ r ≤ 4194305 := by
  by_cases e : r = 0
  · unfold phiA; rw [if_pos e]; omega
  · have ha : at_[r.toNat - 1]? = some (at_[r.toNat - 1]'(by omega)) := List.getElem?_eq_getElem (by omega)
    rw [phiA_get e ha]
    have := hb _ (List.mem_of_getElem? ha)
    omega
theorem Ref_spec {hb : Nat} {av : Value} {at_ : List Int} (r : Int) (w : World) (h : Ints w av at_) (hbd : ∀ a ∈ at_, 0 ≤ a ∧ a ≤ 4194304) (h0 : 0 ≤ r) (h1 : r ≤ at_.length) (hl : at_.length ≤ 1000) :
    CallC Pr f_gleanerlaw14_Built_Ref [.agg #[ptr hb, av], .int .i64 r] w (fun v w' => v = .int .u64 (phiA at_ r) ∧ Fr No w w') := by
  obtain ⟨aa, ac, rfl, hc⟩ := id h
  refine call_sound T_ok fun_gleanerlaw14_Built_Ref rfl (by kernel_rfl) rfl (Kp ?_)
  refine NewC_blk (fun p2 w1 e_p2 b1 f1 s1 => ?_)
  have b1 : Blk w1 p2 t_gleanerlaw14_Built [ptr hb, .slice aa at_.length ac] := b1
  refine Br_dec (fun g => ?_) (fun g => ?_)
  · have g : r = 0 := g
    refine ⟨?_, f1⟩
    unfold phiA
    rw [if_pos g]; rfl
  have g : ¬ r = 0 := g
  obtain ⟨a, ha⟩ : ∃ a, at_[r.toNat - 1]? = some a := ⟨_, List.getElem?_eq_getElem (by omega)⟩
  have hab := hbd a (List.mem_of_getElem? ha)
  obtain ⟨x, rfl, hx⟩ : ∃ x, aa = some x ∧ ∀ (i : Nat) (z : Int), at_[i]? = some z → w.cell? (x.add i) = some (.int .i64 z) := by
    rcases hc with e | hc
    · rw [e] at ha; cases ha
    · exact hc
  have e1 : IntKind.i64.wrap (r - 1) = r - 1 := wrap_i64 (by omega) (by omega)
  refine LdC_blk (b1) rfl ?_
  refine Sd_intro (by rw [e1]; omega) (Kp ?_)
  refine LdC_intro (v := .int .i64 a) (by rw [e1, Nat.mul_one, show (r - 1).toNat = r.toNat - 1 by omega]; exact cell_keep (hx _ _ ha) f1) (Kp ?_)
  refine ⟨congrArg (Value.int .u64) ?_, f1⟩
  rw [phiA_get g ha]
  rw [wrap_i64 (by omega) (by omega), wrap_u64 (by omega) (by omega)]
theorem Home_spec {z : Nat → Nat} {c : Cfg} {hb : Nat} {p : HP} {s : HS} {av : Value} {at_ : List Int} (r : Int) (w : World) (hh : HeapAt w z c hb p s) (h : Ints w av at_) {a : Int} (h0 : 1 ≤ r) (ha : at_[r.toNat - 1]? = some a) (hl : at_.length ≤ 1000) :
    CallC Pr f_gleanerlaw14_Built_Home [.agg #[ptr hb, av], .int .i64 r] w (fun v w' => v = .int .i64 (regC c a) ∧ Fr No w w') := by
  obtain ⟨aa, ac, rfl, hc⟩ := id h
  have hr := (List.getElem?_eq_some_iff.1 ha).1
  refine call_sound T_ok fun_gleanerlaw14_Built_Home rfl (by kernel_rfl) rfl (Kp ?_)
  refine NewC_blk (fun p2 w1 e_p2 b1 f1 s1 => ?_)
  have b1 : Blk w1 p2 t_gleanerlaw14_Built [ptr hb, .slice aa at_.length ac] := b1
  have t1 := hh.tab.keep f1 id
  obtain ⟨x, rfl, hx⟩ : ∃ x, aa = some x ∧ ∀ (i : Nat) (z : Int), at_[i]? = some z → w.cell? (x.add i) = some (.int .i64 z) := by
    rcases hc with e | hc
    · rw [e] at ha; cases ha
    · exact hc
  have hcell := cell_keep (hx _ _ ha) f1
  have e1 : IntKind.i64.wrap (r - 1) = r - 1 := wrap_i64 (by omega) (by omega)
  have D1 : Fr No w1 w1.drew := Fr.drew w1
  refine AnyC_plan T_ok mixed (planO [0,1,2,3,4,5,6,7,8,9,10,1011,12]) ((fun w' => Blk w' p2 t_gleanerlaw14_Built [ptr hb, .slice (some x) at_.length ac] ∧ Blk w' hb t_heap_Heap (heapL c p) ∧ w'.cell? (x.add (r.toNat - 1)) = some (.int .i64 a))) (by kernel_rfl) (by kernel_rfl) (⟨b1.keep (Fr.drew _) id, t1.keep (Fr.drew _) id, cell_keep hcell (Fr.drew _)⟩) (Kp ?_)
  refine LdS_of (fun w' hw => hw.1) rfl (Kp ?_)
  refine LdSN_of (vs := geoC c) (fun w' hw => hw.2.1) rfl rfl (Kp ?_)
  refine LdS_of (fun w' hw => hw.1) rfl (Kp ?_)
  refine Sd_intro (by rw [e1]; omega) (Kp ?_)
  refine LdS_intro (v := .int .i64 a) (fun w' hw => by rw [e1, Nat.mul_one, show (r - 1).toNat = r.toNat - 1 by omega]; exact hw.2.2) (Kp ?_)
  refine ⟨Kp ?_, trivial⟩
  refine CallC_intro (Region_C hh.ok a _) (fun v w2 ⟨hv, f2⟩ => ?_)
  subst hv
  have g2 := D1.no f2
  refine Sd_intro ⟨b1.keep g2 id, t1.keep g2 id, cell_keep hcell g2⟩ (Kp ?_)
  exact ⟨rfl, f1.no g2⟩
end Go.Proofs.YtdhbpklmkibmbaaGreat
/- A plan is built: a thing's references. -/
namespace Go.Proofs.YtdhbpklmkibmbaaGreat
open Go.Vc

theorem st_ge {t : Th} (h : 1 ≤ t.st) : 0 ≤ t.st := by omega
section
variable {p : Pl} {hb : Nat} {q : HP} {s : HS} {at_ op : List Int} {B : List LObj}
/-- A store into an object. -/
theorem Store_obj {w : World} {z : Nat → Nat} {c : Cfg} {i : Nat} {b : LObj} (h : HeapAt w z c hb q s) (hB : BInv c s.ws s.rs B op) (hi : B[i]? = some b) {j : Nat} (x : Int) (hj : 1 ≤ j) (hj2 : j < b.2.length) (hx : 0 ≤ x ∧ x ≤ 18446744073709551615) :
    CallC Pr f_arena_Arena_Store [ptr q.ab, .int .i64 (b.1 + j), .int .u64 x] w (fun v w' => v = .int .i64 0 ∧ ∃ acc, HeapAt w' z c hb q { s with acc := acc, ws := s.ws.set (b.1.toNat + j) x } ∧ BInv c (s.ws.set (b.1.toNat + j) x) s.rs (B.set i (b.1, b.2.set j x)) op ∧ Mv z z (· = 2) w w') := by
  obtain ⟨ar, hA, zb, zr⟩ := h.arena
  have hb0 := (hB.laid.len b (List.mem_of_getElem? hi)).1
  have hl : b.1.toNat + j < s.ws.length := by
    have := ((hB.laid.objs b (List.mem_of_getElem? hi)).1).2 j _ (List.getElem?_eq_getElem hj2)
    exact (List.getElem?_eq_some_iff.1 this).1
  refine CallC_mk (Calls.mono (CallC_elim (Store_in (b.1 + j) x w hA (by omega) (by omega) hx)) fun e w' ⟨v, he, hv, hA', f⟩ => ⟨v, he, hv, ?_⟩)
  rw [show (b.1 + (j : Int)).toNat = b.1.toNat + j by omega] at hA'
  have m : Mv z z (· = 2) w w' := Mv.ofZ f (fun k _ e => by rcases e with e | e <;> rw [e] <;> assumption)
  exact ⟨_, h.setArena m ⟨ar, hA', zb, zr⟩ (by rw [List.length_set]), ⟨hB.laid.write hi x hj hj2, hB.zero, hB.opl, hB.op⟩, m⟩
/-- How far a thing is linked. -/
def halfW (at_ : List Int) (t : Th) (k : Nat) : List Int := objW (fillTo (t.refs.map (phiA at_)) k) t.data
theorem halfW_len (at_ : List Int) (t : Th) (k : Nat) : (halfW at_ t k).length = 1 + t.refs.length + t.data.length := by unfold halfW; rw [objW_len, fillTo_len, List.length_map]
theorem addA_code {n per : Int} {A : Abs} {hm cd : Int} (h : 0 ≤ hm ∧ hm < n ∧ 0 ≤ cd ∧ cd < n * per) (ne : hm ≠ cd / per) : (addA n per A hm cd).2.1 = 0 := by
  unfold addA
  rw [if_pos h, if_neg ne]
  split
  · rfl
  · rfl
  · split
    · rfl
    · split <;> rfl
theorem halfW_step {at_ : List Int} {t : Th} {k : Nat} {r : Int} (h : t.refs[k]? = some r) : (halfW at_ t k).set (1 + k) (phiA at_ r) = halfW at_ t (k + 1) := by
  have hk := (List.getElem?_eq_some_iff.1 h).1
  unfold halfW
  rw [objW_setR _ (by rw [fillTo_len, List.length_map]; exact hk), fillTo_set]
  rw [List.getElem?_map, h]; rfl
set_option maxHeartbeats 1000000 in
theorem link_spec {w0 w : World} {z : Nat → Nat} {av v : Value} {i : Nat} {t : Th} {a : Int} (hp : PlanOk p) (hv : PlanV w0 p v) (F0 : Fr No w0 w) (z0 : ∀ k, k < w0.heap.size → z k = 0) (h : HeapAt w z p.c hb q s) (hB : BInv p.c s.ws s.rs B op)
    (hav : Ints w av at_) (zav : ∀ k, av.ownBlock = some k → z k = 320) (hbd : ∀ x ∈ at_, 0 ≤ x ∧ x < p.c.c1 * P p.c) (hal : at_.length = p.ts.length) (hti : p.ts[i]? = some t) (ha : at_[i]? = some a) (hBi : B[i]? = some (a, rawW t)) (hfit : a + (1 + t.refs.length + t.data.length : Nat) ≤ p.c.c1 * P p.c) :
    CallC Pr f_gleanerlaw14_Built_link [.agg #[ptr hb, av], v, .int .i64 i] w (fun r w' => r = .bool true ∧ ∃ z' acc ws A, HeapAt w' z' p.c hb q (s.put acc ws s.back A) ∧ BInv p.c ws s.rs (B.set i (a, linW at_ t)) op ∧ Mv z z' (fun i => i = 2 ∨ i = 7) w w') := by
  have ht := hp.t t (List.mem_of_getElem? hti)
  have htl := hp.tl
  have hil := (List.getElem?_eq_some_iff.1 hti).1
  have hV := hp.v
  have hP := P_le hV
  have hal' : at_.length ≤ 1000 := by omega
  have hbd' : ∀ x ∈ at_, 0 ≤ x ∧ x ≤ 4194304 := fun x hx => by have := hbd x hx; omega
  have hiB : i < B.length := (List.getElem?_eq_some_iff.1 hBi).1
  have a0 := hbd a (List.mem_of_getElem? ha)
  obtain ⟨aa, ac, rfl, hc⟩ := id hav
  obtain ⟨tv, hvv, rfl, hT, hH⟩ := id hv
  obtain ⟨ta, tc, rfl, tl, hth⟩ := id hT
  obtain ⟨ha', hc', rfl, hl, hh⟩ := id hH
  obtain ⟨tok, tx, tv, ea, htv, hcell⟩ := hth i t hti
  subst ea
  obtain ⟨rv, dv, etv, hrv, hdv⟩ := id htv
  subst etv
  obtain ⟨ra, rc, rfl, hrc⟩ := id hrv
  obtain ⟨da, dc, rfl, _⟩ := id hdv
  obtain ⟨x, rfl, hx⟩ : ∃ x, aa = some x ∧ ∀ (i : Nat) (z : Int), at_[i]? = some z → w.cell? (x.add i) = some (.int .i64 z) := by
    rcases hc with e | hc
    · rw [e] at ha; cases ha
    · exact hc
  refine call_sound T_ok fun_gleanerlaw14_Built_link rfl (by kernel_rfl) rfl (Kp ?_)
  refine NewC_blk (fun p3 w1 e_p3 b1 f1 s1 => ?_)
  have b1 : Blk w1 p3 t_gleanerlaw14_Built [ptr hb, .slice (some x) at_.length ac] := b1
  refine NewC_blk (fun p4 w2 e_p4 b2 f2 s2 => ?_)
  have b2 : Blk w2 p4 t_gleanerref14_Plan (planL p (.slice (some tx) p.ts.length tc) (.slice ha' p.hs.length hc')) := b2
  have F02 := (F0.no f1).no f2
  refine LdC_blk (b2) rfl ?_
  refine Sd_intro (show 0 ≤ (i : Int) ∧ (i : Int) < (p.ts.length : Int) by omega) (Kp ?_)
  refine LdN_cells (vs := [.int .i64 t.st, .slice ra t.refs.length rc, .slice da t.data.length dc]) (fun j u hj => by rw [show ((i : Int)).toNat = i by omega]; exact cell_keep (hcell j u hj) F02) rfl (Kp ?_)
  refine NewC_blk (fun p7 w3 e_p7 b3 f3 s3 => ?_)
  refine StN_blk (b3) rfl (Nat.le_of_ble_eq_true rfl) (fun w4 b4 f4 s4 => ?_)
  have b4 : Blk w4 p7 t_gleanerref14_Thing [.int .i64 t.st, .slice ra t.refs.length rc, .slice da t.data.length dc] := b4
  have f34 : Fr No w2 w4 := f3.new f4 (fun _ _ e => e) (fun k e => by omega)
  have f24 : Fr No w w4 := (f1.no f2).no f34
  have b14 := (b1.keep f2 id).keep f34 id
  have F04 := F02.no f34
  have sz1 := f1.size
  have sz2 := f2.size
  have sz4 := f34.size
  obtain ⟨z1, ez1⟩ : ∃ z1, z1 = zput (zput z p3 9999) p7 9999 := ⟨_, rfl⟩
  have zp3 : z1 p3 = 9999 := by rw [ez1, zput_ne (by omega), zput_self]
  have zp7 : z1 p7 = 9999 := by rw [ez1, zput_self]
  have m4 : Mv z z1 (fun _ => False) w w4 := by rw [ez1]; exact ((Mv.of f24).put (by omega)).put (by omega)
  have zav1 : ∀ k, (Value.slice (some x) at_.length ac).ownBlock = some k → z1 k = 320 ∨ z1 k = 9999 := fun k hk => by
    by_cases e7 : k = p7
    · rw [e7]; exact .inr zp7
    · by_cases e3 : k = p3
      · rw [e3]; exact .inr zp3
      · rw [ez1, zput_ne e7, zput_ne e3]; exact .inl (zav k hk)
  have h4 := h.mv m4 (fun _ _ e => e)
  have av4 := hav.keep f24 (fun _ _ => id)
  have rl : (t.refs.map (phiA at_)).length = t.refs.length := List.length_map ..
  have e0 : B.set i (a, halfW at_ t 0) = B := by
    have : halfW at_ t 0 = rawW t := by unfold halfW rawW; rw [fillTo_zero, rl]
    rw [this]
    obtain ⟨hh, e⟩ := List.getElem?_eq_some_iff.1 hBi
    rw [← e]
    exact List.set_getElem_self hh
  refine LoopC_intro (α := Int) (fun k => [(2, .int .i64 i), (3, .pointer (some ⟨p3, 0, none⟩)), (7, .pointer (some ⟨p7, 0, none⟩)), (8, .int .i64 k)])
    (fun m k w' => ∃ z' acc ws A, HeapAt w' z' p.c hb q (s.put acc ws s.back A) ∧ BInv p.c ws s.rs (B.set i (a, halfW at_ t k.toNat)) op ∧ Mv z1 z' (fun i => i = 2 ∨ i = 7) w4 w' ∧ 0 ≤ k ∧ k ≤ t.refs.length ∧ m = (t.refs.length - k).toNat)
    (t.refs.length - 0 : Int).toNat 0 ⟨rfl, rfl, rfl, rfl, trivial⟩ ⟨z1, s.acc, s.ws, s.sets, h4, (show BInv p.c s.ws s.rs (B.set i (a, halfW at_ t 0)) op by rw [e0]; exact hB), Mv.refl _ _ _, Int.le_refl _, (show (0 : Int) ≤ t.refs.length by omega), rfl⟩ (fun m k w5 hJ => Kp ?_)
  obtain ⟨z5, acc5, ws5, A5, h5, hB5, m5, k0, k1, hm⟩ := hJ
  have k0 : 0 ≤ k := k0
  have k1 : k ≤ (t.refs.length : Int) := k1
  have hm : m = (t.refs.length - k).toNat := hm
  have zin : ∀ k', z1 k' = 9999 ∨ z1 k' = 320 ∨ z1 k' = 1 → ¬ (z1 k' = 2 ∨ z1 k' = 7) := fun k' e => by omega
  have b35 := b14.keep m5.fr (zin _ (.inl zp3))
  have b75 := b4.keep m5.fr (zin _ (.inl zp7))
  have av5 := av4.keep m5.fr (fun k' hk => zin _ (by rcases zav1 k' hk with e | e; exact .inr (.inl e); exact .inl e))
  have F05 : Fr No w0 w5 := F04.trans m5.fr (fun _ _ e => e) (fun k' hk e => by
    have h1 := z0 k' hk
    have h2 := F0.size
    have : z1 k' = 0 := by rw [ez1, zput_ne (by omega), zput_ne (by omega)]; exact h1
    omega)
  refine LdC_blk (b75) rfl ?_
  refine Br_dec (fun g => ?_) (fun g => ?_)
  rotate_left
  · have g : ¬ k < (t.refs.length : Int) := g
    have ek : k.toNat = (t.refs.map (phiA at_)).length := by omega
    refine ⟨rfl, z5, acc5, ws5, A5, h5, ?_, m4.trans m5 (fun _ e => e.elim) (fun _ e => e)⟩
    have e : halfW at_ t k.toNat = linW at_ t := by unfold halfW linW; rw [ek, fillTo_all]
    rw [← e]; exact hB5
  have g : k < (t.refs.length : Int) := g
  obtain ⟨r, hr⟩ : ∃ r, t.refs[k.toNat]? = some r := ⟨_, List.getElem?_eq_getElem (by omega)⟩
  have hrb := ht.2.2.2.2.2 r (List.mem_of_getElem? hr)
  obtain ⟨rx, rfl, hrx⟩ : ∃ rx, ra = some rx ∧ ∀ (i : Nat) (z : Int), t.refs[i]? = some z → w0.cell? (rx.add i) = some (.int .i64 z) := by
    rcases hrc with e | hrc
    · rw [e] at hr; cases hr
    · exact hrc
  have av5i := av5.keep (Fr.refl No w5) (fun _ _ => id)
  obtain ⟨_, _, eav, hc5⟩ := id av5
  obtain ⟨x', ex', hx5⟩ : ∃ x', some x = some x' ∧ ∀ (i : Nat) (z : Int), at_[i]? = some z → w5.cell? (x'.add i) = some (.int .i64 z) := by
    rcases hc5 with e | hc5
    · rw [e] at ha; cases ha
    · injection eav with e1 _ _
      rw [e1]; exact hc5
  obtain rfl : x = x' := by injection ex'
  refine LdC_blk (b35) rfl ?_
  refine Sd_intro (show 0 ≤ (i : Int) ∧ (i : Int) < (at_.length : Int) by omega) (Kp ?_)
  refine LdC_intro (v := .int .i64 a) (by rw [Nat.mul_one, show ((i : Int)).toNat = i by omega]; exact hx5 i a ha) (Kp ?_)
  have e9 : IntKind.i64.wrap (IntKind.i64.wrap (a + 1) + k) = a + ((1 + k.toNat : Nat) : Int) := by
    rw [wrap_i64 (n := a + 1) (by omega) (by omega), wrap_i64 (by omega) (by omega)]; omega
  have D5 : Fr No w5 w5.drew := Fr.drew w5
  have St : ∀ {w' : World}, Fr (fun k => z5 k = 2 ∨ z5 k = 7) w5 w' → Blk w' p3 t_gleanerlaw14_Built [ptr hb, .slice (some x) at_.length ac] ∧ Blk w' hb t_heap_Heap (heapL p.c q) ∧ Blk w' p7 t_gleanerref14_Thing [.int .i64 t.st, .slice (some rx) t.refs.length rc, .slice da t.data.length dc] ∧ w'.cell? (rx.add k.toNat) = some (.int .i64 r) := fun f => by
    have z53 := (m5.zs p3 b14.lt).trans zp3
    have z57 := (m5.zs p7 b4.lt).trans zp7
    refine ⟨b35.keep f (by rw [z53]; decide), h5.tab.keep f (by rw [h5.tabz]; decide), b75.keep f (by rw [z57]; decide), ?_⟩
    refine cell_keep (hrx _ _ hr) (F05.trans f (fun _ _ e => e) (fun k' hk e => ?_))
    have h2 := F0.size
    have h1 : z1 k' = 0 := by rw [ez1, zput_ne (by omega), zput_ne (by omega)]; exact z0 k' hk
    rw [m5.zs k' (by omega), h1] at e
    omega
  have StN : ∀ {w' : World}, Fr No w5 w' → Blk w' p3 t_gleanerlaw14_Built [ptr hb, .slice (some x) at_.length ac] ∧ Blk w' hb t_heap_Heap (heapL p.c q) ∧ Blk w' p7 t_gleanerref14_Thing [.int .i64 t.st, .slice (some rx) t.refs.length rc, .slice da t.data.length dc] ∧ w'.cell? (rx.add k.toNat) = some (.int .i64 r) := fun f => St (f.weak (fun _ _ e => e.elim))
  refine AnyC_plan T_ok mixed (planO [0,1,2,3,4,5,6,7,8,9,10,11,1012,1013,14]) ((fun w' => Blk w' p3 t_gleanerlaw14_Built [ptr hb, .slice (some x) at_.length ac] ∧ Blk w' hb t_heap_Heap (heapL p.c q) ∧ Blk w' p7 t_gleanerref14_Thing [.int .i64 t.st, .slice (some rx) t.refs.length rc, .slice da t.data.length dc] ∧ w'.cell? (rx.add k.toNat) = some (.int .i64 r))) (by kernel_rfl) (by kernel_rfl) ((StN (Fr.drew _))) (Kp ?_)
  refine LdS_of (fun w' hw => hw.1) rfl (Kp ?_)
  refine LdS_of (fun w' hw => hw.2.1) rfl (Kp ?_)
  refine LdSN_of (vs := [ptr hb, .slice (some x) at_.length ac]) (fun w' hw => hw.1) rfl rfl (Kp ?_)
  refine LdS_of (fun w' hw => hw.2.2.1) rfl (Kp ?_)
  refine Sd_intro (show 0 ≤ k ∧ k < (t.refs.length : Int) from ⟨k0, g⟩) (Kp ?_)
  refine LdS_intro (v := .int .i64 r) (fun w' hw => by rw [Nat.mul_one]; exact hw.2.2.2) (Kp ?_)
  refine ⟨Kp ?_, trivial⟩
  refine CallC_intro (Ref_spec r _ (av5.keep D5 (fun _ _ => id)) hbd' hrb.1 (by omega) hal') (fun v w6 ⟨hv, f6⟩ => ?_)
  subst hv
  have g6 := D5.no f6
  refine Sd_intro (StN g6) (Kp ?_)
  refine ⟨Kp ?_, trivial⟩
  have hphi := phiA_bd hbd' hrb.1 (show r ≤ at_.length by omega)
  have hBi5 : (B.set i (a, halfW at_ t k.toNat))[i]? = some (a, halfW at_ t k.toNat) := List.getElem?_set_self hiB
  have hst : CallC Pr f_arena_Arena_Store [ptr q.ab, .int .i64 (a + ((1 + k.toNat : Nat) : Int)), .int .u64 (phiA at_ r)] w6 _ := Store_obj (h5.no g6) hB5 hBi5 (j := 1 + k.toNat) (phiA at_ r) (by omega) (by rw [halfW_len]; omega) (by omega)
  rw [← e9] at hst
  refine CallC_intro hst (fun v w7 ⟨hv, acc7, h7, hB7, m7⟩ => ?_)
  subst hv
  have m57 : Mv z5 z5 (· = 2) w5 w7 := (Mv.of (S := (· = 2)) g6).same m7
  refine Sd_intro (St (m57.fr.weak (fun _ _ e => .inl e))) (Kp ?_)
  have hB7 : BInv p.c (ws5.set (a.toNat + (1 + k.toNat)) (phiA at_ r)) s.rs (B.set i (a, halfW at_ t (k + 1).toNat)) op := by
    have e : (B.set i (a, halfW at_ t k.toNat)).set i (a, (halfW at_ t k.toNat).set (1 + k.toNat) (phiA at_ r)) = B.set i (a, halfW at_ t (k + 1).toNat) := by
      rw [List.set_set, halfW_step hr, show (k + 1).toNat = k.toNat + 1 by omega]
    rw [← e]; exact hB7
  have h7 : HeapAt w7 z5 p.c hb q (s.put acc7 (ws5.set (a.toNat + (1 + k.toNat)) (phiA at_ r)) s.back A5) := h7
  have M7 : Mv z1 z5 (fun i => i = 2 ∨ i = 7) w4 w7 := m5.trans m57 (fun _ e => e) (fun _ e => .inl e)
  have av7 : Ints w7 (.slice (some x) at_.length ac) at_ := av4.keep M7.fr (fun k' hk => zin _ (by rcases zav1 k' hk with e | e; exact .inr (.inl e); exact .inl e))
  have D7 : Fr No w7 w7.drew := Fr.drew w7
  have St7 : ∀ {w' : World}, Fr No w7 w' → Blk w' p3 t_gleanerlaw14_Built [ptr hb, .slice (some x) at_.length ac] ∧ Blk w' hb t_heap_Heap (heapL p.c q) ∧ Blk w' p7 t_gleanerref14_Thing [.int .i64 t.st, .slice (some rx) t.refs.length rc, .slice da t.data.length dc] ∧ w'.cell? (rx.add k.toNat) = some (.int .i64 r) := fun f => St ((m57.fr.weak (fun _ _ e => .inl e)).same (f.weak (fun _ _ e => e.elim)))
  refine AnyC_plan T_ok mixed (planO [0,1,2,3,4,5,6,7,8,9,10,11,12,13,14,15,16,17,19,20,21,22,23,24,1018,1025,26,27]) ((fun w' => Blk w' p3 t_gleanerlaw14_Built [ptr hb, .slice (some x) at_.length ac] ∧ Blk w' hb t_heap_Heap (heapL p.c q) ∧ Blk w' p7 t_gleanerref14_Thing [.int .i64 t.st, .slice (some rx) t.refs.length rc, .slice da t.data.length dc] ∧ w'.cell? (rx.add k.toNat) = some (.int .i64 r))) (by kernel_rfl) (by kernel_rfl) ((St7 (Fr.drew _))) (Kp ?_)
  refine LdS_of (fun w' hw => hw.2.2.1) rfl (Kp ?_)
  refine Sd_intro (show 0 ≤ k ∧ k < (t.refs.length : Int) from ⟨k0, g⟩) (Kp ?_)
  refine LdS_intro (v := .int .i64 r) (fun w' hw => by rw [Nat.mul_one]; exact hw.2.2.2) (Kp ?_)
  refine Br_dec (fun q1 => ?_) (fun q1 => ?_)
  · refine ⟨Kp ?_, trivial⟩
    refine ⟨Kp ?_, trivial⟩
    refine ⟨(t.refs.length - (k + 1)).toNat, _, by omega, ?_, k + 1, rfl, z5, acc7, _, A5, h7.no D7, hB7, M7.no D7, (show 0 ≤ k + 1 by omega), (show k + 1 ≤ (t.refs.length : Int) by omega), rfl⟩
    exact ⟨rfl, rfl, rfl, look_int rfl (wrap_i64 (by omega) (by omega)), trivial⟩
  have q1 : ¬ r = 0 := q1
  refine LdS_of (fun w' hw => hw.2.2.1) rfl (Kp ?_)
  refine Br_dec (fun q2 => ?_) (fun q2 => ?_)
  · refine ⟨Kp ?_, trivial⟩
    refine ⟨Kp ?_, trivial⟩
    refine ⟨(t.refs.length - (k + 1)).toNat, _, by omega, ?_, k + 1, rfl, z5, acc7, _, A5, h7.no D7, hB7, M7.no D7, (show 0 ≤ k + 1 by omega), (show k + 1 ≤ (t.refs.length : Int) by omega), rfl⟩
    exact ⟨rfl, rfl, rfl, look_int rfl (wrap_i64 (by omega) (by omega)), trivial⟩
  refine LdSN_of (vs := [ptr hb, .slice (some x) at_.length ac]) (fun w' hw => hw.1) rfl rfl (Kp ?_)
  refine LdS_of (fun w' hw => hw.2.2.1) rfl (Kp ?_)
  refine Sd_intro (show 0 ≤ k ∧ k < (t.refs.length : Int) from ⟨k0, g⟩) (Kp ?_)
  refine LdS_intro (v := .int .i64 r) (fun w' hw => by rw [Nat.mul_one]; exact hw.2.2.2) (Kp ?_)
  refine LdS_of (fun w' hw => hw.1) rfl (Kp ?_)
  refine LdSN_of (vs := geoC p.c) (fun w' hw => hw.2.1) rfl rfl (Kp ?_)
  refine ⟨Kp ?_, trivial⟩
  obtain ⟨d, hd⟩ : ∃ d, at_[r.toNat - 1]? = some d := ⟨_, List.getElem?_eq_getElem (by omega)⟩
  have hdb := hbd d (List.mem_of_getElem? hd)
  refine CallC_intro (Home_spec r _ (h7.no D7) (av7.keep D7 (fun _ _ => id)) (by omega) hd hal') (fun v w8 ⟨hv, f8⟩ => ?_)
  subst hv
  have g8 := D7.no f8
  refine Sd_intro (St7 g8) (Kp ?_)
  refine ⟨Kp ?_, trivial⟩
  refine CallC_intro (Region_C hV _ _) (fun v w9 ⟨hv, f9⟩ => ?_)
  rw [e9] at hv
  subst hv
  have g9 := g8.no f9
  refine Sd_intro (St7 g9) (Kp ?_)
  refine Br_dec (fun q3 => ?_) (fun q3 => ?_)
  · refine ⟨(t.refs.length - (k + 1)).toNat, _, by omega, ?_, k + 1, rfl, z5, acc7, _, A5, h7.no g9, hB7, M7.no g9, (show 0 ≤ k + 1 by omega), (show k + 1 ≤ (t.refs.length : Int) by omega), rfl⟩
    exact ⟨rfl, rfl, rfl, look_int rfl (wrap_i64 (by omega) (by omega)), trivial⟩
  have q3 : ¬ regC p.c d = regC p.c (a + ((1 + k.toNat : Nat) : Int)) := q3
  obtain ⟨fd, efd⟩ : ∃ fd, fd = a + ((1 + k.toNat : Nat) : Int) := ⟨_, rfl⟩
  rw [← efd] at q3 e9
  have fdb : 0 ≤ fd ∧ fd < p.c.c1 * P p.c := by omega
  have D9 : Fr No w7 w9.drew := g9.no (Fr.drew w9)
  refine AnyC_plan T_ok mixed (planO [0,1,2,3,4,5,6,7,8,9,10,12,13,14,15,16,17,1011,1018,1019,20,21,22,23,24]) ((fun w' => Blk w' p3 t_gleanerlaw14_Built [ptr hb, .slice (some x) at_.length ac] ∧ Blk w' hb t_heap_Heap (heapL p.c q) ∧ Blk w' p7 t_gleanerref14_Thing [.int .i64 t.st, .slice (some rx) t.refs.length rc, .slice da t.data.length dc] ∧ w'.cell? (rx.add k.toNat) = some (.int .i64 r))) (by kernel_rfl) (by kernel_rfl) ((St7 (g9.no (Fr.drew _)))) (Kp ?_)
  refine LdS_of (fun w' hw => hw.1) rfl (Kp ?_)
  refine LdS_of (fun w' hw => hw.2.1) rfl (Kp ?_)
  refine LdSN_of (vs := [ptr hb, .slice (some x) at_.length ac]) (fun w' hw => hw.1) rfl rfl (Kp ?_)
  refine LdS_of (fun w' hw => hw.2.2.1) rfl (Kp ?_)
  refine Sd_intro (show 0 ≤ k ∧ k < (t.refs.length : Int) from ⟨k0, g⟩) (Kp ?_)
  refine LdS_intro (v := .int .i64 r) (fun w' hw => by rw [Nat.mul_one]; exact hw.2.2.2) (Kp ?_)
  refine LdS_of (fun w' hw => hw.1) rfl (Kp ?_)
  refine LdSN_of (vs := geoC p.c) (fun w' hw => hw.2.1) rfl rfl (Kp ?_)
  refine ⟨Kp ?_, trivial⟩
  refine CallC_intro (Home_spec r _ (h7.no D9) (av7.keep D9 (fun _ _ => id)) (by omega) hd hal') (fun v wA ⟨hv, fA⟩ => ?_)
  subst hv
  have gA := D9.no fA
  refine Sd_intro (St7 gA) (Kp ?_)
  refine ⟨Kp ?_, trivial⟩
  refine CallC_intro (Card_C hV _ _) (fun v wB ⟨hv, fB⟩ => ?_)
  rw [e9] at hv
  subst hv
  have gB := gA.no fB
  refine Sd_intro (St7 gB) (Kp ?_)
  refine ⟨Kp ?_, trivial⟩
  have hBb := h7.no gB
  refine CallC_intro (Sets_Add_H (regC p.c d) (cardC p.c fd) hBb) (fun v wC ⟨hv, zC, hC, mC⟩ => ?_)
  subst hv
  have rd : regC p.c d = d / P p.c := by unfold regC; rw [if_neg (by omega)]
  have rf : regC p.c fd = fd / P p.c := by unfold regC; rw [if_neg (by omega)]
  have cf : cardC p.c fd = fd / Q p.c := by unfold cardC; rw [if_neg (by omega)]
  have hm' : P p.c / Q p.c * Q p.c = P p.c := Int.ediv_mul_cancel (Int.dvd_of_emod_eq_zero (QP_dvd hV))
  have code : (addA p.c.c1 (P p.c / Q p.c) A5 (regC p.c d) (cardC p.c fd)).2.1 = 0 := by
    refine addA_code ⟨?_, ?_, ?_, ?_⟩ ?_
    · rw [rd]; exact Int.ediv_nonneg hdb.1 (by omega)
    · rw [rd]; exact Int.ediv_lt_of_lt_mul (by omega) hdb.2
    · rw [cf]; exact Int.ediv_nonneg fdb.1 (by omega)
    · rw [cf]
      refine Int.ediv_lt_of_lt_mul (by omega) ?_
      rw [Int.mul_assoc, hm']; exact fdb.2
    · rw [cf, card_reg hV, ← rf]; exact q3
  have StC : Blk wC p3 t_gleanerlaw14_Built [ptr hb, .slice (some x) at_.length ac] ∧ Blk wC hb t_heap_Heap (heapL p.c q) ∧ Blk wC p7 t_gleanerref14_Thing [.int .i64 t.st, .slice (some rx) t.refs.length rc, .slice da t.data.length dc] ∧ wC.cell? (rx.add k.toNat) = some (.int .i64 r) :=
    St (((m57.fr.weak (fun _ _ e => .inl e)).same (gB.weak (fun _ _ e => e.elim))).same (mC.fr.weak (fun _ _ e => .inr e)))
  refine Sd_intro StC (Kp ?_)
  refine Br_nf code (Kp ?_)
  refine ⟨(t.refs.length - (k + 1)).toNat, _, by omega, ?_, k + 1, rfl, zC, acc7, _, _, hC, hB7, (M7.no gB).trans mC (fun _ e => e) (fun _ e => .inr e), (show 0 ≤ k + 1 by omega), (show k + 1 ≤ (t.refs.length : Int) by omega), rfl⟩
  exact ⟨rfl, rfl, rfl, look_int rfl (wrap_i64 (by omega) (by omega)), trivial⟩
end
end Go.Proofs.YtdhbpklmkibmbaaGreat
/- A plan is built: the things. -/
namespace Go.Proofs.YtdhbpklmkibmbaaGreat
open Go.Vc

theorem LdS_ofi {S : World → Prop} {b t o n : Nat} {cs : List Value} {v : Value} {K : Value → Prop} (h : ∀ w', S w' → Blk w' b t cs) (hc : cs[o + n]? = some v) (k : K v) : LdS S ((Addr.mk b o none).add n) K := by
  rw [add_of]; exact LdS_of h hc k
/-- A heap that is being built. -/
structure Bst (wN w : World) (z : Nat → Nat) (p : Pl) (hb : Nat) (q : HP) (s : HS) (p7 : Nat) (av : Value) (at_ : List Int) : Prop where
  h : HeapAt w z p.c hb q s
  b7 : Blk w p7 t_gleanerlaw14_Built [ptr hb, av]
  z7 : z p7 = 9999
  own : w.ownsRow 0 t_int 1 av at_.length (ints at_)
  zav : ∀ k, av.ownBlock = some k → z k = 320
  fr : Fr No wN w
  zo : ∀ k, k < wN.heap.size → z k = 0
  fit : ∀ (j : Nat) (a : Int) (t : Th), at_[j]? = some a → p.ts[j]? = some t → 0 ≤ a ∧ a + t.size ≤ p.c.c1 * P p.c
  rf : s.refs.length = p.c.c3.toNat
  bu : s.bufs = List.replicate p.c.c3.toNat (0, 0)
  bl : s.back.length = (p.c.c1 * P p.c / Q p.c).toNat
  bb : ∀ x ∈ s.back, 0 ≤ x ∧ x ≤ 4294967295
section
variable {wN w w' : World} {z z' : Nat → Nat} {p : Pl} {hb p7 : Nat} {q : HP} {s : HS} {av : Value} {at_ : List Int}
theorem Bst.mv0 (h : Bst wN w z p hb q s p7 av at_) (m : Mv z z' (fun _ => False) w w') : Bst wN w' z' p hb q s p7 av at_ := by
  have hs := h.fr.size
  have h1 := h.b7.mv h.z7 m id
  have h2 := own_mv h.own h.zav m id
  exact ⟨h.h.mv m (fun _ _ => id), h1.1, h1.2, h2.1, h2.2, h.fr.trans m.fr (fun _ _ e => e) (fun _ _ e => e.elim), fun k hk => (m.zs k (by omega)).trans (h.zo k hk), h.fit, h.rf, h.bu, h.bl, h.bb⟩
theorem Bst.no (h : Bst wN w z p hb q s p7 av at_) (f : Fr No w w') : Bst wN w' z p hb q s p7 av at_ := h.mv0 (Mv.of f)
/-- Parts of the heap change. -/
theorem Bst.upd {S : Nat → Prop} {s' : HS} (h : Bst wN w z p hb q s p7 av at_) (m : Mv z z' S w w') (hS : ∀ i, S i → i ≠ 0 ∧ i ≠ 320 ∧ i ≠ 9999) (h' : HeapAt w' z' p.c hb q s') (rf : s'.refs.length = s.refs.length) (bu : s'.bufs = s.bufs) (bl : s'.back.length = s.back.length ∧ ∀ x ∈ s'.back, x ∈ s.back ∨ (0 ≤ x ∧ x ≤ 4294967295)) : Bst wN w' z' p hb q s' p7 av at_ := by
  have hs := h.fr.size
  have h1 := h.b7.mv h.z7 m (fun e => (hS _ e).2.2 rfl)
  have h2 := own_mv h.own h.zav m (fun e => (hS _ e).2.1 rfl)
  exact ⟨h', h1.1, h1.2, h2.1, h2.2, h.fr.trans m.fr (fun _ _ e => e) (fun k hk e => (hS _ e).1 (h.zo k hk)), fun k hk => (m.zs k (by omega)).trans (h.zo k hk), h.fit, rf.trans h.rf, bu.trans h.bu, bl.1.trans h.bl, fun x hx => (bl.2 x hx).elim (h.bb x) id⟩
theorem Bst.ints (h : Bst wN w z p hb q s p7 av at_) : Ints w av at_ := Own.ints (show Own w 0 av at_ from h.own)
end
def noV : Value := .tuple #[.agg #[.pointer none, .slice none 0 0], .bool false, .bool false]
/-- What was built. -/
structure BuiltS (p : Pl) (s : HS) (at_ : List Int) (B : List LObj) : Prop where
  len : at_.length = p.ts.length
  fil : Fil at_ p.ts (fun _ => linW at_) B
  refs : s.refs = (p.hs ++ List.replicate (p.c.c3.toNat - p.hs.length) ([] : List Int)).map (fun l => l.map (phiA at_))
/-- What Build comes to. -/
def BuildR (w w' : World) (p : Pl) (r : Value) : Prop := r = noV ∨ ∃ wN z hb q s p7 av at_ op B, r = .tuple #[.agg #[ptr hb, av], .bool true, .bool false] ∧ w.heap.size ≤ wN.heap.size ∧ Bst wN w' z p hb q s p7 av at_ ∧ BInv p.c s.ws s.rs B op ∧ BuiltS p s at_ B
theorem thing_at {w : World} {p : Pl} {ta : Option Addr} {n tc : Nat} (h : ThingsV w (.slice ta n tc) p.ts) {i : Nat} {t : Th} (hi : p.ts[i]? = some t) : ThOk t ∧ ∃ x ra rc da dc, ta = some x ∧ ThV w t [.int .i64 t.st, .slice ra t.refs.length rc, .slice da t.data.length dc] ∧
    ∀ (j : Nat) (u : Value), ([Value.int .i64 t.st, .slice ra t.refs.length rc, .slice da t.data.length dc])[j]? = some u → w.cell? ((x.add (i * 3)).add j) = some u := by
  obtain ⟨a', c', e, _, h⟩ := h
  obtain rfl : ta = a' := by injection e
  obtain ⟨tok, x, tv, ea, htv, hcell⟩ := h i t hi
  obtain ⟨rv, dv, etv, hrv, hdv⟩ := id htv
  subst etv
  obtain ⟨ra, rc, rfl, _⟩ := id hrv
  obtain ⟨da, dc, rfl, _⟩ := id hdv
  exact ⟨tok, x, ra, rc, da, dc, ea, htv, hcell⟩
/-- A reference is pushed. -/
theorem Push_H {w : World} {z : Nat → Nat} {c : Cfg} {hb : Nat} {q : HP} {s : HS} {t b : Nat} {l : List Int} (x : Int) (h : HeapAt w z c hb q s) (hb' : q.bs[t]? = some b) (hl : s.refs[t]? = some l) (hn : (l.length : Int) < c.c4) (hx : 0 ≤ x ∧ x ≤ 18446744073709551615) :
    CallC Pr f_roots_Stack_Push [ptr b, .int .u64 x] w (fun v w' => v = .int .i64 0 ∧ ∃ z', HeapAt w' z' c hb q { s with refs := s.refs.set t (l ++ [x]) } ∧ Mv z z' (· = 100 + t) w w') := by
  obtain ⟨sv, hS, zb, zv⟩ := h.stacks t b l hb' hl
  refine CallC_mk (Calls.mono (CallC_elim (roots_Push_spec x w hS hn hx)) fun e w' ⟨v, he, hv, v', hS', hob, f⟩ => ⟨v, he, hv, ?_⟩)
  have m : Mv z z (· = 100 + t) w w' := Mv.ofZ f (fun k _ e => by
    rcases e with e | e
    · rw [e]; exact zb
    · exact zv k e)
  rcases hob with e | ⟨k, hk, hle⟩
  · exact ⟨z, h.setStack hb' m ⟨v', hS', zb, fun k hk => zv k (by rw [← e]; exact hk)⟩, m⟩
  · refine ⟨zput z k (100 + t), h.setStack hb' (m.put hle) ⟨v', hS', ?_, fun k' hk' => ?_⟩, m.put hle⟩
    · rw [zput_ne]
      · exact zb
      · intro e
        have := hS.tab.lt
        omega
    · rw [hk] at hk'
      injection hk' with hk'
      rw [← hk']
      exact zput_self
/-- The stacks when the first handles are pushed. -/
def refsH (p : Pl) (at_ : List Int) (i : Nat) : List (List Int) := (p.hs.take i).map (fun l => l.map (phiA at_)) ++ List.replicate (p.c.c3.toNat - i) []
theorem refsH_len (p : Pl) (at_ : List Int) (i : Nat) (h : i ≤ p.hs.length) (h2 : i ≤ p.c.c3.toNat) : (refsH p at_ i).length = p.c.c3.toNat := by
  unfold refsH
  rw [List.length_append, List.length_map, List.length_take, List.length_replicate]; omega
theorem refsH_get {p : Pl} {at_ : List Int} {i : Nat} (h : i < p.hs.length) (h2 : i < p.c.c3.toNat) : (refsH p at_ i)[i]? = some [] := by
  unfold refsH
  rw [List.getElem?_append_right (by rw [List.length_map, List.length_take]; omega), List.length_map, List.length_take, List.getElem?_replicate, if_pos (by omega)]
theorem refsH_set {p : Pl} {at_ : List Int} {i : Nat} {l : List Int} (h : p.hs[i]? = some l) (h2 : i < p.c.c3.toNat) : (refsH p at_ i).set i (l.map (phiA at_)) = refsH p at_ (i + 1) := by
  have hi := (List.getElem?_eq_some_iff.1 h).1
  apply List.ext_getElem?
  intro j
  unfold refsH
  by_cases e : i = j
  · subst e
    rw [List.getElem?_set_self (by rw [List.length_append, List.length_map, List.length_take, List.length_replicate]; omega), List.getElem?_append_left (by rw [List.length_map, List.length_take]; omega), List.getElem?_map, List.getElem?_take, if_pos (by omega), h]; rfl
  · rw [List.getElem?_set_ne e]
    by_cases q : j < i
    · rw [List.getElem?_append_left (by rw [List.length_map, List.length_take]; omega), List.getElem?_append_left (by rw [List.length_map, List.length_take]; omega), List.getElem?_map, List.getElem?_map, List.getElem?_take, List.getElem?_take, if_pos q, if_pos (by omega)]
    · rw [List.getElem?_append_right (by rw [List.length_map, List.length_take]; omega), List.getElem?_append_right (by rw [List.length_map, List.length_take]; omega), List.length_map, List.length_map, List.length_take, List.length_take, List.getElem?_replicate, List.getElem?_replicate]
      by_cases q2 : j < p.c.c3.toNat
      · rw [if_pos (by omega), if_pos (by omega)]
      · rw [if_neg (by omega), if_neg (by omega)]
theorem szW_of {t : Th} (h : t.size ≤ 1048576) : szW t = t.size := by
  unfold szW
  unfold Th.size at h ⊢
  rw [wrap_i64 (n := 1 + (t.refs.length : Int)) (by omega) (by omega), wrap_i64 (by omega) (by omega)]
set_option maxHeartbeats 2000000 in
theorem Build_spec {p : Pl} {v : Value} (w : World) (hp : PlanOk p) (hv : PlanV w p v) : CallC Pr f_gleanerlaw14_Build [v] w (fun r w' => BuildR w w' p r ∧ Fr No w w') := by
  obtain ⟨tv, hvv, rfl, hT, hH⟩ := id hv
  obtain ⟨ta, tc, rfl, tl, _⟩ := id hT
  obtain ⟨ha, hc, rfl, hl, _⟩ := id hH
  have hV := hp.v
  have hP := P_le hV
  have htl := hp.tl
  have c3 := hV.ls 1 (p.c.c3, 1, 64) rfl
  have c3 : 1 ≤ p.c.c3 ∧ p.c.c3 ≤ 64 := c3
  refine callU_sound T_ok fun_gleanerlaw14_Build rfl (by kernel_rfl) rfl (Kp ?_)
  refine NewC_blk (fun p1 w1 e_p1 b1 f1 s1 => ?_)
  have b1 : Blk w1 p1 t_gleanerref14_Plan (planL p (.slice ta p.ts.length tc) (.slice ha p.hs.length hc)) := b1
  refine NewC_blk (fun p2 w2 e_p2 b2 f2 s2 => ?_)
  have b2 : Blk w2 p2 t_gleanerlaw14_Built [.pointer none, .slice none 0 0] := b2
  have b12 := b1.keep f2 id
  have F2 := f1.no f2
  have zz1 := f1.size
  have zz2 := f2.size
  refine LdN_blk (vs := cfgL p.c) (b12) rfl rfl ?_
  refine CallC_intro (heap_New_spec p.c w2 hV) (fun v w3 ⟨hb, q, z3, hv3, h3, zl3, z03, f3⟩ => ?_)
  subst hv3
  have b13 := b12.keep f3 id
  have b23 := b2.keep f3 id
  have F3 := F2.no f3
  have zz3 := f3.size
  refine Cut_no ?_
  refine NewC_blk (fun p7 w4 e_p7 b4 f4 s4 => ?_)
  refine StN_blk (b4) rfl (Nat.le_of_ble_eq_true rfl) (fun w5 b5 f5 s5 => ?_)
  have b5 : Blk w5 p7 t_gleanerlaw14_Built [ptr hb, .slice none 0 0] := b5
  have f45 : Fr No w3 w5 := f4.new f5 (fun _ _ e => e) (fun k e => by omega)
  have zz5 := f45.size
  refine NewC_blk (fun ob w6 e_ob b6 f6 s6 => ?_)
  have b6 : Blk w6 ob t_int (ints [-1, -1, -1, -1]) := b6
  have f36 : Fr No w3 w6 := f45.no f6
  have zz6 := f36.size
  obtain ⟨z6, ez6⟩ : ∃ z6, z6 = zput (zput z3 p7 9999) ob 321 := ⟨_, rfl⟩
  have hp7 : p7 = w3.heap.size := by omega
  have hob : ob = w5.heap.size := by omega
  have np7 : p7 ≠ ob := by omega
  have m6 : Mv z3 z6 (fun _ => False) w3 w6 := by rw [ez6]; exact ((Mv.of f36).put (by omega)).put (by omega)
  have H6 := h3.mv m6 (fun _ _ => id)
  have z67 : z6 p7 = 9999 := by rw [ez6, zput_ne np7, zput_self]
  have z6o : z6 ob = 321 := by rw [ez6, zput_self]
  have B6 : Bst w2 w6 z6 p hb q (newS p.c) p7 (.slice none 0 0) [] :=
    ⟨H6, b5.keep f6 id, z67, World.ownsRow_nil _ _ _ _, fun k hk => (by cases hk), f3.no f36, fun k hk => by rw [m6.zs k (by omega)]; exact z03 k hk, fun j a t h => (by cases h), List.length_replicate .., rfl, List.length_replicate .., fun x hx => by rw [(List.mem_replicate.1 hx).2]; decide⟩
  have P2 : ∀ {w'}, Fr No w2 w' → Blk w' p1 t_gleanerref14_Plan (planL p (.slice ta p.ts.length tc) (.slice ha p.hs.length hc)) ∧ Blk w' p2 t_gleanerlaw14_Built [.pointer none, .slice none 0 0] := fun f => ⟨b12.keep f id, b2.keep f id⟩
  have T2 : ∀ {w'}, Fr No w2 w' → ThingsV w' (.slice ta p.ts.length tc) p.ts ∧ HandV w' (.slice ha p.hs.length hc) p.hs := fun f => ⟨hT.keep (F2.no f), hH.keep (F2.no f)⟩
  have no : ∀ {w'}, Fr No w2 w' → BuildR w w' p noV ∧ Fr No w w' := fun f => ⟨.inl rfl, F2.no f⟩
  refine Cut (α := Unit) (fun _ => [(1, ptr p1), (2, ptr p2), (5, ptr hb), (7, ptr p7)])
    (fun _ w' => ∃ z s av at_ op B, Bst w2 w' z p hb q s p7 av at_ ∧ BInv p.c s.ws s.rs B op ∧ at_.length = p.ts.length ∧ Fil at_ p.ts (fun _ => rawW) B ∧ s.refs = List.replicate p.c.c3.toNat []) ?_ (fun _ w7 hJ => Kp ?_)
  · refine LoopC_intro (α := Int) (fun i => [(1, ptr p1), (2, ptr p2), (5, ptr hb), (7, ptr p7), (8, .slice (some ⟨ob, 0, none⟩) 4 4), (9, .int .i64 i)])
      (fun m i w' => ∃ z s av at_ op B, Bst w2 w' z p hb q s p7 av at_ ∧ BInv p.c s.ws s.rs B op ∧ (Blk w' ob t_int (ints op) ∧ z ob = 321) ∧ (at_.length : Int) = i ∧ Fil at_ p.ts (fun _ => rawW) B ∧ s.refs = List.replicate p.c.c3.toNat [] ∧ 0 ≤ i ∧ i ≤ p.ts.length ∧ m = (p.ts.length - i).toNat)
      (p.ts.length - 0 : Int).toNat 0 ⟨rfl, rfl, rfl, rfl, rfl, rfl, trivial⟩ ⟨z6, _, _, _, _, _, B6, BInv.new p.c _, ⟨b6, z6o⟩, rfl, ⟨rfl, fun j a t h => (by cases h)⟩, rfl, Int.le_refl _, (show (0 : Int) ≤ p.ts.length by omega), rfl⟩ (fun m i w7 hJ => Kp ?_)
    obtain ⟨z7, s7, av, at_, op, B, B7, I7, ⟨o7, zo7⟩, eat, fil, er, i0, i1, hm⟩ := hJ
    have i0 : 0 ≤ i := i0
    have i1 : i ≤ (p.ts.length : Int) := i1
    have hm : m = (p.ts.length - i).toNat := hm
    refine Cut_no ?_
    refine LdC_blk ((P2 B7.fr).1) rfl ?_
    refine Br_dec (fun g => ?_) (fun g => ?_)
    rotate_left
    · have g : ¬ i < (p.ts.length : Int) := g
      exact ⟨(), ⟨rfl, rfl, rfl, rfl, trivial⟩, z7, s7, av, at_, op, B, B7, I7, by omega, fil, er⟩
    have g : i < (p.ts.length : Int) := g
    obtain ⟨t, hti⟩ : ∃ t, p.ts[i.toNat]? = some t := ⟨_, List.getElem?_eq_getElem (by omega)⟩
    have ht := hp.t t (List.mem_of_getElem? hti)
    have hsz := hp.size (List.mem_of_getElem? hti)
    obtain ⟨tok, tx, ra, rc, da, dc, ea, htv2, hcell2⟩ := thing_at (T2 (Fr.refl No w2)).1 hti
    have htv := htv2.keep B7.fr
    have hcell := fun (j : Nat) (u : Value) hj => cell_keep (hcell2 j u hj) B7.fr
    have es := szW_of hsz.1
    subst ea
    refine Cut_no ?_
    refine LdC_blk ((P2 B7.fr).1) rfl ?_
    refine Sd_intro (show 0 ≤ i ∧ i < (p.ts.length : Int) from ⟨i0, g⟩) (Kp ?_)
    refine LdN_cells (vs := [.int .i64 t.st, .slice ra t.refs.length rc, .slice da t.data.length dc]) hcell rfl (Kp ?_)
    have zhb7 := B7.h.tabz
    refine CallC_intro (room_spec w7 B7.h o7 I7.opl zo7 (fun e => by rw [e, zhb7] at zo7; cases zo7) htv es ⟨ht.2.2.2.1, ht.2.2.2.2.1⟩ ⟨by omega, hsz.1⟩) (fun v w8 hR => ?_)
    obtain ⟨a, ok, hv8, fr8, hok⟩ := hR
    subst hv8
    have m8 : Mv z7 z7 (fun i => i = 3 ∨ i = 321) w7 w8 := Mv.ofZ fr8 (fun k _ e => by rcases e with e | e; exact .inl e; rw [e]; exact .inr zo7)
    have F8 : Fr No w2 w8 := B7.fr.trans m8.fr (fun _ _ e => e) (fun k hk e => by have := B7.zo k hk; omega)
    refine Cut_no ?_
    cases ok with
    | false =>
      refine StN_blk ((P2 F8).2) rfl (Nat.le_of_ble_eq_true rfl) (fun w9 b9 f9 s9 => ?_)
      have b9 : Blk w9 p2 t_gleanerlaw14_Built [.pointer none, .slice none 0 0] := b9
      refine LdN_blk (vs := [.pointer none, .slice none 0 0]) (b9) rfl rfl ?_
      exact ⟨.inl rfl, (F2.no F8).new f9 (fun _ _ e => e) (fun k e => by omega)⟩
    | true =>
    obtain ⟨op', rs', hRm, H8, o8⟩ := hok rfl
    have rsl := B7.h.rsl
    have us7 : ∀ x ∈ s7.rs, 0 ≤ x.2.1 ∧ x.2.1 ≤ P p.c := fun x hx => by
      obtain ⟨r7, hR7, _, _⟩ := B7.h.regs
      have := hR7.us x hx
      exact ⟨this.1, this.2.1⟩
    obtain ⟨hab, mk⟩ := hRm.make hV I7 rsl us7 (by omega) hsz.1
    have o8' : z7 ob = 321 := zo7
    have b78 := B7.b7.mv B7.z7 m8 (by decide)
    have own8 := own_mv B7.own B7.zav m8 (by decide)
    refine LdC_blk (b78.1) rfl ?_
    refine NewC_blk (fun pa w9 e_pa b9 f9 s9 => ?_)
    have hsz8 := f9.size
    obtain ⟨z9, ez9⟩ : ∃ z9, z9 = zput z7 pa 9999 := ⟨_, rfl⟩
    have m9 : Mv z7 z9 (fun _ => False) w8 w9 := by rw [ez9]; exact (Mv.of f9).put (by omega)
    have own9 := own_mv own8.1 own8.2 m9 id
    have b79 := b78.1.mv b78.2 m9 id
    refine ApL T_ok (e := t_int) rfl rfl rfl (by decide) own9.1 (Nat.zero_le _) b9 (news := [.int .i64 a]) rfl rfl rfl (by omega) (show (at_.length + 1) * 8 ≤ 140737488355328 by omega) (fun v' w10 o10 f10 l10 => ?_)
    have m10 : Mv z9 z9 (· = 320) w9 w10 := Mv.ofZ f10 (fun k hk e => own9.2 k e)
    have b710 := b79.1.mv b79.2 m10 (by decide)
    obtain ⟨a10, c10, e10⟩ := own_slice o10
    subst e10
    refine StC_blk b710.1 rfl rfl (fun w11 b11 f11 _ => ?_)
    have b11 : Blk w11 p7 t_gleanerlaw14_Built [ptr hb, .slice a10 (at_.length + 1) c10] := b11
    have m11 : Mv z9 z9 (· = 9999) w10 w11 := Mv.ofZ f11 (fun k _ e => by rw [e]; exact b710.2)
    have lo : ∀ k, (Value.slice a10 (at_.length + 1) c10).ownBlock = some k → z9 k = 320 ∨ w9.heap.size ≤ k := fun k hk => by
      rcases l10 with e | e
      · exact .inl (own9.2 k (by rw [← e]; exact hk))
      · rw [hk] at e; injection e with e; exact .inr (by omega)
    have Z11 : ∃ z' : Nat → Nat, Mv z9 z' (fun i => i = 320 ∨ i = 9999) w9 w11 ∧ ∀ k, (Value.slice a10 (at_.length + 1) c10).ownBlock = some k → z' k = 320 := by
      have mt : Mv z9 z9 (fun i => i = 320 ∨ i = 9999) w9 w11 := m10.trans m11 (fun _ e => .inl e) (fun _ e => .inr e)
      rcases hob' : (Value.slice a10 (at_.length + 1) c10).ownBlock with _ | k
      · exact ⟨z9, mt, fun k hk => (by cases hk)⟩
      · rcases lo k hob' with e | e
        · exact ⟨z9, mt, fun k' hk => by injection hk with hk; rw [← hk]; exact e⟩
        · exact ⟨zput z9 k 320, mt.put e, fun k' hk => by injection hk with hk; rw [← hk]; exact zput_self⟩
    obtain ⟨z11, M11, zo11⟩ := Z11
    have m811 : Mv z7 z11 (fun i => i = 320 ∨ i = 9999) w8 w11 := m9.trans M11 (fun _ e => e.elim) (fun _ e => e)
    have own11 : w11.ownsRow 0 t_int 1 (.slice a10 (at_.length + 1) c10) (at_ ++ [a]).length (ints (at_ ++ [a])) := by
      have e : ints (at_ ++ [a]) = ints at_ ++ [.int .i64 a] := by simp [ints]
      rw [e, List.length_append]
      exact own_keepV o10 f11 (fun k hk e => by
        have e : k = p7 := e
        subst e
        rcases lo k hk with e | e
        · rw [b79.2] at e; cases e
        · have := b79.1.lt; omega)
    have Bs11 : Bst w2 w11 z11 p hb q (s7.regs rs') p7 (.slice a10 (at_.length + 1) c10) (at_ ++ [a]) := by
      have hs := B7.fr.size
      have hs8 := m8.fr.size
      refine ⟨H8.mv m811 (fun i hi e => by omega), b11, ?_, own11, zo11, F8.trans m811.fr (fun _ _ e => e) (fun k hk e => by have := B7.zo k hk; omega), fun k hk => ?_, fun j x u hx hu => ?_, B7.rf, B7.bu, B7.bl, B7.bb⟩
      · rw [M11.zs p7 b79.1.lt]; exact b79.2
      · rw [m811.zs k (by omega)]; exact B7.zo k hk
      · by_cases q : j < at_.length
        · rw [List.getElem?_append_left q] at hx
          exact B7.fit j x u hx hu
        · have hj : j < (at_ ++ [a]).length := (List.getElem?_eq_some_iff.1 hx).1
          rw [List.length_append] at hj
          have hj : j < at_.length + 1 := hj
          obtain rfl : j = at_.length := by omega
          rw [List.getElem?_append_right (Nat.le_refl _), Nat.sub_self] at hx
          injection hx with hx
          subst hx
          rw [show at_.length = i.toNat by omega, hti] at hu
          injection hu with hu
          subst hu
          exact hab
    have o11 : Blk w11 ob t_int (ints op') ∧ z11 ob = 321 := o8.mv o8' m811 (by decide)
    have F11 := Bs11.fr
    refine LdC_blk ((P2 F11).1) rfl ?_
    refine Sd_intro (show 0 ≤ i ∧ i < (p.ts.length : Int) from ⟨i0, g⟩) (Kp ?_)
    refine LdN_cells (vs := [.int .i64 t.st, .slice ra t.refs.length rc, .slice da t.data.length dc]) (fun j u hj => cell_keep (hcell2 j u hj) F11) rfl (Kp ?_)
    refine NewC_blk (fun pb w12 e_pb b12' f12 s12 => ?_)
    refine StN_blk (b12') rfl (Nat.le_of_ble_eq_true rfl) (fun w13 b13' f13 s13 => ?_)
    have b13' : Blk w13 pb t_gleanerref14_Thing [.int .i64 t.st, .slice ra t.refs.length rc, .slice da t.data.length dc] := b13'
    have f1113 : Fr No w11 w13 := f12.new f13 (fun _ _ e => e) (fun k e => by omega)
    obtain ⟨z13, ez13⟩ : ∃ z13, z13 = zput z11 pb 9999 := ⟨_, rfl⟩
    have m13 : Mv z11 z13 (fun _ => False) w11 w13 := by rw [ez13]; exact (Mv.of f1113).put (by omega)
    have zpb : z13 pb = 9999 := by rw [ez13, zput_self]
    have B13 := Bs11.mv0 m13
    have o13 := o11.1.mv o11.2 m13 id
    have D13 : Fr No w13 w13.drew := Fr.drew w13
    have hth := B13.h.tab
    have S13 : ∀ {w' : World}, Fr No w13 w' → Blk w' hb t_heap_Heap (heapL p.c q) ∧ Blk w' pb t_gleanerref14_Thing [.int .i64 t.st, .slice ra t.refs.length rc, .slice da t.data.length dc] := fun f => ⟨hth.keep f id, b13'.keep f id⟩
    refine Cut_no ?_
    refine AnyC_plan T_ok mixed (planO [0,1,2,3,4,5,7,8,9,1006,1010,11]) ((fun w' => Blk w' hb t_heap_Heap (heapL p.c q) ∧ Blk w' pb t_gleanerref14_Thing [.int .i64 t.st, .slice ra t.refs.length rc, .slice da t.data.length dc])) (by kernel_rfl) (by kernel_rfl) ((S13 (Fr.drew _))) (Kp ?_)
    refine LdS_of (fun w' hw => hw.1) rfl (Kp ?_)
    refine LdSN_of (vs := [.int .i64 t.st, .slice ra t.refs.length rc, .slice da t.data.length dc]) (fun w' hw => hw.2) rfl rfl (Kp ?_)
    refine LdS_of (fun w' hw => hw.2) rfl (Kp ?_)
    refine ⟨Kp ?_, trivial⟩
    refine CallC_intro (Size_len ra da rc dc _) (fun v w14 ⟨hv, f14⟩ => ?_)
    rw [es] at hv
    subst hv
    have g14 := D13.no f14
    refine Sd_intro (S13 g14) (Kp ?_)
    refine ⟨Kp ?_, trivial⟩
    obtain ⟨ar, hAr, zab, zar⟩ := (B13.no g14).h.arena
    have wsl := B13.h.wsl
    have hAr : IsArena w14 q.ab ar s7.acc s7.ws := hAr
    have wsl : (s7.ws.length : Int) = p.c.c1 * P p.c := wsl
    have hsn := size_nat t
    have rl : (t.refs.length : Int) < t.size := by rw [hsn]; omega
    refine CallC_intro (Make_spec a t.size t.refs.length w14 hAr hab.1 (by omega) hsz.1 (by omega) rl (by omega)) (fun v w15 ⟨hv, hA15, f15⟩ => ?_)
    subst hv
    have m15 : Mv z13 z13 (· = 2) w14 w15 := Mv.ofZ f15 (fun k _ e => by rcases e with e | e <;> rw [e] <;> assumption)
    have B15 := (B13.no g14).upd m15 (fun i e => by omega) ((B13.no g14).h.setArena m15 ⟨ar, hA15, zab, zar⟩ (show _ = s7.ws.length by rw [List.length_set, zeroed_len])) rfl rfl ⟨rfl, fun _ h => .inl h⟩
    have I15 : BInv p.c (made s7.ws a t.size t.refs.length) rs' (B ++ [(a, objW (List.replicate t.refs.length 0) (fillTo t.data 0))]) op' := by
      rw [fillTo_zero]
      have hl : ((objW (List.replicate t.refs.length 0) (List.replicate t.data.length 0)).length : Int) = t.size := by
        rw [objW_len, List.length_replicate, List.length_replicate, hsn]
      refine mk _ _ t.refs.length hl ?_ ?_ (made_out hab.1 (by omega))
      · have := made_seg (ws := s7.ws) (a := a) (p := t.refs.length) (d := t.data.length) hab.1 (by rw [← hsn]; omega)
        rw [← hsn] at this
        exact this
      · have := objW_ok (rf := List.replicate t.refs.length 0) (dt := List.replicate t.data.length 0) (by rw [List.length_replicate, List.length_replicate]; omega)
        rw [List.length_replicate] at this
        exact this
    have o15 := (o13.1.keep g14 id).mv o13.2 m15 (by decide)
    have b15 := (b13'.keep g14 id).mv zpb m15 (by decide)
    refine Sd_intro ⟨B15.h.tab, b15.1⟩ (Kp ?_)
    obtain ⟨s15, es15⟩ : ∃ s15 : HS, s15 = { s7.regs rs' with acc := IntKind.i64.wrap (s7.acc + 1), ws := made s7.ws a t.size t.refs.length } := ⟨_, rfl⟩
    have B15 : Bst w2 w15 z13 p hb q s15 p7 (.slice a10 (at_.length + 1) c10) (at_ ++ [a]) := by rw [es15]; exact B15
    have e15 : s15.ws = made s7.ws a t.size t.refs.length ∧ s15.rs = rs' ∧ s15.refs = s7.refs := by rw [es15]; exact ⟨rfl, rfl, rfl⟩
    clear es15
    refine Cut (α := Unit) (fun _ => [(1, ptr p1), (2, ptr p2), (5, ptr hb), (7, ptr p7), (8, .slice (some ⟨ob, 0, none⟩) 4 4), (9, .int .i64 i), (10, .int .i64 a), (12, ptr pb)])
      (fun _ w' => ∃ z s, Bst w2 w' z p hb q s p7 (.slice a10 (at_.length + 1) c10) (at_ ++ [a]) ∧ (s.ws = made s7.ws a t.size t.refs.length ∧ s.rs = rs' ∧ s.refs = s7.refs) ∧ (Blk w' ob t_int (ints op') ∧ z ob = 321) ∧ (Blk w' pb t_gleanerref14_Thing [.int .i64 t.st, .slice ra t.refs.length rc, .slice da t.data.length dc] ∧ z pb = 9999)) ?_ (fun _ w16 hJ => Kp ?_)
    · have D15 : Fr No w15 w15.drew := Fr.drew w15
      have S15 : ∀ {w' : World}, Fr No w15 w' → Blk w' hb t_heap_Heap (heapL p.c q) ∧ Blk w' pb t_gleanerref14_Thing [.int .i64 t.st, .slice ra t.refs.length rc, .slice da t.data.length dc] := fun f => ⟨B15.h.tab.keep f id, b15.1.keep f id⟩
      refine AnyC_plan T_ok mixed (planO [0,1,2,3,4,5,6,7,8,9,1010,1011,12,13]) ((fun w' => Blk w' hb t_heap_Heap (heapL p.c q) ∧ Blk w' pb t_gleanerref14_Thing [.int .i64 t.st, .slice ra t.refs.length rc, .slice da t.data.length dc])) (by kernel_rfl) (by kernel_rfl) ((S15 (Fr.drew _))) (Kp ?_)
      refine LdS_of (fun w' hw => hw.2) rfl (Kp ?_)
      refine Br_dec (fun g3 => ?_) (fun g3 => ?_)
      · refine LdS_of (fun w' hw => hw.1) rfl (Kp ?_)
        refine LdSN_of (vs := [.int .i64 t.st, .slice ra t.refs.length rc, .slice da t.data.length dc]) (fun w' hw => hw.2) rfl rfl (Kp ?_)
        refine ⟨Kp ?_, trivial⟩
        refine CallC_intro (Size_len ra da rc dc _) (fun v w16 ⟨hv, f16⟩ => ?_)
        rw [es] at hv
        subst hv
        have g16 := D15.no f16
        refine Sd_intro (S15 g16) (Kp ?_)
        refine ⟨Kp ?_, trivial⟩
        obtain ⟨orr, hO, zob1, zob2⟩ := (B15.no g16).h.offs
        refine CallC_intro (offs_Put_spec a t.size w16 hO hab.1 (by omega) hab.2 (by omega)) (fun v w17 ⟨hv, ⟨bk, hO17, hbk, hbkv⟩, f17⟩ => ?_)
        subst hv
        have hbv : ∀ x ∈ bk, x ∈ s15.back ∨ (0 ≤ x ∧ x ≤ 4294967295) := fun x hx => by
          obtain ⟨j, hj, ej⟩ := List.getElem_of_mem hx
          have h1 := hbkv j (by omega)
          rw [List.getElem?_eq_getElem hj, ej] at h1
          split at h1
          · rename_i hc
            injection h1 with h1
            right
            omega
          · exact .inl (List.mem_of_getElem? h1.symm)
        have m17 : Mv z13 z13 (· = 4) w16 w17 := Mv.ofZ f17 (fun k _ e => by rw [e]; exact zob2)
        have B17 := (B15.no g16).upd m17 (fun i e => by omega) ((B15.no g16).h.setOffs m17 ⟨orr, hO17, zob1, zob2⟩) rfl rfl ⟨hbk, hbv⟩
        have o17 := (o15.1.keep g16 id).mv o15.2 m17 (by decide)
        have b17 := (b15.1.keep g16 id).mv b15.2 m17 (by decide)
        refine Sd_intro ⟨B17.h.tab, b17.1⟩ (Kp ?_)
        exact ⟨(), ⟨rfl, rfl, rfl, rfl, rfl, rfl, rfl, rfl, trivial⟩, z13, _, B17, e15, o17, b17⟩
      · refine ⟨Kp ?_, trivial⟩
        refine ⟨Kp ?_, trivial⟩
        exact ⟨(), ⟨rfl, rfl, rfl, rfl, rfl, rfl, rfl, rfl, trivial⟩, z13, s15, B15.no D15, e15, ⟨o15.1.keep D15 id, o15.2⟩, ⟨b15.1.keep D15 id, b15.2⟩⟩
    obtain ⟨z16, s16, B16, e16, o16, b16⟩ := hJ
    obtain ⟨e16a, e16b, e16c⟩ := e16
    rw [← e16a, ← e16b] at I15
    obtain ⟨hdv0, hdv⟩ : True ∧ UC w2 (.slice da t.data.length dc) t.data := ⟨trivial, by
      obtain ⟨rv, dv, e, _, h⟩ := htv2
      simp only [List.cons.injEq] at e
      rw [← e.2.2.1] at h
      exact h⟩
    refine LoopC_intro (α := Int) (fun k => [(1, ptr p1), (2, ptr p2), (5, ptr hb), (7, ptr p7), (8, .slice (some ⟨ob, 0, none⟩) 4 4), (9, .int .i64 i), (10, .int .i64 a), (12, ptr pb), (13, .int .i64 k)])
      (fun m k w' => ∃ acc ws, Bst w2 w' z16 p hb q { s16 with acc := acc, ws := ws } p7 (.slice a10 (at_.length + 1) c10) (at_ ++ [a]) ∧ BInv p.c ws s16.rs (B ++ [(a, objW (List.replicate t.refs.length 0) (fillTo t.data k.toNat))]) op' ∧ Mv z16 z16 (· = 2) w16 w' ∧ 0 ≤ k ∧ k ≤ t.data.length ∧ m = (t.data.length - k).toNat)
      (t.data.length - 0 : Int).toNat 0 ⟨rfl, rfl, rfl, rfl, rfl, rfl, rfl, rfl, rfl, trivial⟩ ⟨s16.acc, s16.ws, B16, I15, Mv.refl _ _ _, Int.le_refl _, (show (0 : Int) ≤ t.data.length by omega), rfl⟩ (fun m k w17 hJ => Kp ?_)
    obtain ⟨acc17, ws17, B17, I17, m17, k0, k1, hm17⟩ := hJ
    have k0 : 0 ≤ k := k0
    have k1 : k ≤ (t.data.length : Int) := k1
    have hm17 : m = (t.data.length - k).toNat := hm17
    have b17 := b16.1.mv b16.2 m17 (by decide)
    have o17 := o16.1.mv o16.2 m17 (by decide)
    refine Cut_no ?_
    refine LdC_blk (b17.1) rfl ?_
    refine Br_dec (fun g4 => ?_) (fun g4 => ?_)
    · have g4 : k < (t.data.length : Int) := g4
      have hkl : k.toNat < t.data.length := by omega
      obtain ⟨dx, rfl, hdc⟩ := hdv.at hkl
      obtain ⟨d, ed⟩ : ∃ d, d = t.data[k.toNat]'hkl := ⟨_, rfl⟩
      rw [← ed] at hdc
      have hdk : t.data[k.toNat]? = some d := by rw [List.getElem?_eq_getElem hkl, ed]
      have hdb := tok.data d (List.mem_of_getElem? hdk)
      unfold u64B at hdb
      have D17 : Fr No w17 w17.drew := Fr.drew w17
      have S17 : ∀ {w' : World}, Fr No w17 w' → Blk w' hb t_heap_Heap (heapL p.c q) ∧ Blk w' pb t_gleanerref14_Thing [.int .i64 t.st, .slice ra t.refs.length rc, .slice (some dx) t.data.length dc] ∧ w'.cell? (dx.add k.toNat) = some (.int .u64 d) := fun f => ⟨B17.h.tab.keep f id, b17.1.keep f id, cell_keep hdc (B17.fr.no f)⟩
      have e21 : IntKind.i64.wrap (IntKind.i64.wrap (IntKind.i64.wrap (a + 1) + (t.refs.length : Int)) + k) = a + ((1 + t.refs.length + k.toNat : Nat) : Int) := by
        rw [wrap_i64 (n := a + 1) (by omega) (by omega), wrap_i64 (n := a + 1 + (t.refs.length : Int)) (by omega) (by omega), wrap_i64 (by omega) (by omega)]; omega
      refine Cut_no ?_
      refine AnyC_plan T_ok mixed (planO [0,1,2,3,4,5,6,7,8,9,10,11,12,13,14,15,16,1017]) ((fun w' => Blk w' hb t_heap_Heap (heapL p.c q) ∧ Blk w' pb t_gleanerref14_Thing [.int .i64 t.st, .slice ra t.refs.length rc, .slice (some dx) t.data.length dc] ∧ w'.cell? (dx.add k.toNat) = some (.int .u64 d))) (by kernel_rfl) (by kernel_rfl) ((S17 (Fr.drew _))) (Kp ?_)
      refine LdS_of (fun w' hw => hw.1) rfl (Kp ?_)
      refine LdS_of (fun w' hw => hw.2.1) rfl (Kp ?_)
      refine LdS_of (fun w' hw => hw.2.1) rfl (Kp ?_)
      refine Sd_intro (show 0 ≤ k ∧ k < (t.data.length : Int) from ⟨k0, g4⟩) (Kp ?_)
      refine LdS_intro (v := .int .u64 d) (fun w' hw => by rw [Nat.mul_one]; exact hw.2.2) (Kp ?_)
      refine ⟨Kp ?_, trivial⟩
      have hBl : (B ++ [(a, objW (List.replicate t.refs.length 0) (fillTo t.data k.toNat))])[B.length]? = some (a, objW (List.replicate t.refs.length 0) (fillTo t.data k.toNat)) := by
        rw [List.getElem?_append_right (Nat.le_refl _), Nat.sub_self]; rfl
      have hst : CallC Pr f_arena_Arena_Store [ptr q.ab, .int .i64 (a + ((1 + t.refs.length + k.toNat : Nat) : Int)), .int .u64 d] w17.drew _ := Store_obj (B17.no D17).h I17 hBl (j := 1 + t.refs.length + k.toNat) d (by omega) (by rw [objW_len, List.length_replicate, fillTo_len]; omega) hdb
      rw [← e21] at hst
      refine CallC_intro hst (fun v w18 ⟨hv, acc18, H18, I18, m18⟩ => ?_)
      have m1718 : Mv z16 z16 (· = 2) w17 w18 := (Mv.of (S := (· = 2)) D17).same m18
      have B18 := B17.upd m1718 (fun i e => by omega) H18 rfl rfl ⟨rfl, fun _ h => .inl h⟩
      refine Sd_intro ⟨B18.h.tab, (b17.1.mv b17.2 m1718 (by decide)).1, cell_keep hdc B18.fr⟩ (Kp ?_)
      refine ⟨(t.data.length - (k + 1)).toNat, _, by omega, ?_, k + 1, rfl, acc18, _, B18, ?_, m17.same m1718, (show 0 ≤ k + 1 by omega), (show k + 1 ≤ (t.data.length : Int) by omega), rfl⟩
      · exact ⟨rfl, rfl, rfl, rfl, rfl, rfl, rfl, rfl, look_int rfl (wrap_i64 (by omega) (by omega)), trivial⟩
      · have e : (B ++ [(a, objW (List.replicate t.refs.length 0) (fillTo t.data k.toNat))]).set B.length (a, (objW (List.replicate t.refs.length 0) (fillTo t.data k.toNat)).set (1 + t.refs.length + k.toNat) d) = B ++ [(a, objW (List.replicate t.refs.length 0) (fillTo t.data (k + 1).toNat))] := by
          rw [List.set_append_right _ _ (Nat.le_refl _), Nat.sub_self, show (k + 1).toNat = k.toNat + 1 by omega, ← fillTo_set hdk]
          have := objW_setD (rf := List.replicate t.refs.length 0) (dt := fillTo t.data k.toNat) (k := k.toNat) d (by rw [fillTo_len]; exact hkl)
          rw [List.length_replicate] at this
          rw [this]; rfl
        rw [← e]; exact I18
    · have g4 : ¬ k < (t.data.length : Int) := g4
      have ek : k.toNat = t.data.length := by omega
      rw [ek, fillTo_all] at I17
      refine ⟨(p.ts.length - (i + 1)).toNat, _, by omega, ?_, i + 1, rfl, z16, _, _, at_ ++ [a], op', B ++ [(a, rawW t)], B17, I17, o17, ?_, ⟨?_, fun j x u hx hu => ?_⟩, e16c.trans er, (show 0 ≤ i + 1 by omega), (show i + 1 ≤ (p.ts.length : Int) by omega), rfl⟩
      · exact ⟨rfl, rfl, rfl, rfl, rfl, look_int rfl (wrap_i64 (by omega) (by omega)), trivial⟩
      · rw [List.length_append]
        show ((at_.length + 1 : Nat) : Int) = i + 1
        omega
      · rw [List.length_append, List.length_append, fil.1]; rfl
      · by_cases q : j < at_.length
        · rw [List.getElem?_append_left q] at hx
          rw [List.getElem?_append_left (by rw [fil.1]; exact q)]
          exact fil.2 j x u hx hu
        · have hj : j < (at_ ++ [a]).length := (List.getElem?_eq_some_iff.1 hx).1
          rw [List.length_append] at hj
          have hj : j < at_.length + 1 := hj
          obtain rfl : j = at_.length := by omega
          rw [List.getElem?_append_right (Nat.le_refl _), Nat.sub_self] at hx
          rw [List.getElem?_append_right (by rw [fil.1]; exact Nat.le_refl _), fil.1, Nat.sub_self]
          injection hx with hx
          subst hx
          rw [show at_.length = i.toNat by omega, hti] at hu
          injection hu with hu
          subst hu
          rfl
  obtain ⟨z7, s7, av, at_, op, B, B7, I7, eal, fil7, er7⟩ := hJ
  have hv2 := hv.keep F2
  have hbd : ∀ x ∈ at_, 0 ≤ x ∧ x < p.c.c1 * P p.c := fun x hx => by
    obtain ⟨j, hj, e⟩ := List.getElem_of_mem hx
    obtain ⟨t, ht⟩ : ∃ t, p.ts[j]? = some t := ⟨_, List.getElem?_eq_getElem (by omega)⟩
    have h1 := B7.fit j x t (by rw [List.getElem?_eq_getElem hj, e]) ht
    have h2 := (hp.t t (List.mem_of_getElem? ht)).1
    omega
  have hbd' : ∀ x ∈ at_, 0 ≤ x ∧ x ≤ 4194304 := fun x hx => by have := hbd x hx; omega
  refine Cut (α := Unit) (fun _ => [(1, ptr p1), (2, ptr p2), (5, ptr hb), (7, ptr p7)])
    (fun _ w' => ∃ z s B, Bst w2 w' z p hb q s p7 av at_ ∧ BInv p.c s.ws s.rs B op ∧ Fil at_ p.ts (fun _ => linW at_) B ∧ s.refs = List.replicate p.c.c3.toNat []) ?_ (fun _ w8 hJ => Kp ?_)
  · refine LoopC_intro (α := Int) (fun i => [(1, ptr p1), (2, ptr p2), (5, ptr hb), (7, ptr p7), (14, .int .i64 i)])
      (fun m i w' => ∃ z s B, Bst w2 w' z p hb q s p7 av at_ ∧ BInv p.c s.ws s.rs B op ∧ Fil at_ p.ts (fun j t => if (j : Int) < i then linW at_ t else rawW t) B ∧ s.refs = List.replicate p.c.c3.toNat [] ∧ 0 ≤ i ∧ i ≤ p.ts.length ∧ m = (p.ts.length - i).toNat)
      (p.ts.length - 0 : Int).toNat 0 ⟨rfl, rfl, rfl, rfl, rfl, trivial⟩ ⟨z7, s7, B, B7, I7, ⟨fil7.1, fun j a t h1 h2 => by dsimp only; rw [if_neg (by omega)]; exact fil7.2 j a t h1 h2⟩, er7, Int.le_refl _, (show (0 : Int) ≤ p.ts.length by omega), rfl⟩ (fun m i w8 hJ => Kp ?_)
    obtain ⟨z8, s8, B8, Bs8, I8, fil8, er8, i0, i1, hm⟩ := hJ
    have i0 : 0 ≤ i := i0
    have i1 : i ≤ (p.ts.length : Int) := i1
    have hm : m = (p.ts.length - i).toNat := hm
    refine Cut_no ?_
    refine LdC_blk ((P2 Bs8.fr).1) rfl ?_
    refine Br_dec (fun g => ?_) (fun g => ?_)
    rotate_left
    · have g : ¬ i < (p.ts.length : Int) := g
      refine ⟨(), ⟨rfl, rfl, rfl, rfl, trivial⟩, z8, s8, B8, Bs8, I8, ⟨fil8.1, fun j a t h1 h2 => ?_⟩, er8⟩
      have hj := (List.getElem?_eq_some_iff.1 h2).1
      have := fil8.2 j a t h1 h2
      dsimp only at this
      rw [if_pos (by omega)] at this
      exact this
    have g : i < (p.ts.length : Int) := g
    obtain ⟨t, hti⟩ : ∃ t, p.ts[i.toNat]? = some t := ⟨_, List.getElem?_eq_getElem (by omega)⟩
    obtain ⟨a, hai⟩ : ∃ a, at_[i.toNat]? = some a := ⟨_, List.getElem?_eq_getElem (by omega)⟩
    have hfit := B7.fit i.toNat a t hai hti
    rw [size_nat] at hfit
    have hBi : B8[i.toNat]? = some (a, rawW t) := by
      have := fil8.2 i.toNat a t hai hti
      dsimp only at this
      rw [if_neg (by omega)] at this
      exact this
    refine Cut_no ?_
    have b87 := Bs8.b7
    have b81 := (P2 Bs8.fr).1
    refine LdN_blk (vs := [ptr hb, av]) (b87) rfl rfl ?_
    refine LdN_blk (vs := planL p (.slice ta p.ts.length tc) (.slice ha p.hs.length hc)) (b81) rfl rfl ?_
    have hlk := link_spec (i := i.toNat) hp hv2 Bs8.fr Bs8.zo Bs8.h I8 Bs8.ints Bs8.zav hbd eal hti hai hBi hfit.2
    rw [show ((i.toNat : Nat) : Int) = i by omega] at hlk
    refine CallC_intro hlk (fun v w9 ⟨hv9, z9, acc9, ws9, A9, H9, I9, m9⟩ => ?_)
    subst hv9
    have Bs9 := Bs8.upd m9 (fun i e => by omega) H9 rfl rfl ⟨rfl, fun _ h => .inl h⟩
    refine ⟨(p.ts.length - (i + 1)).toNat, _, by omega, ?_, i + 1, rfl, z9, _, _, Bs9, I9, ⟨?_, fun j x u hx hu => ?_⟩, er8, (show 0 ≤ i + 1 by omega), (show i + 1 ≤ (p.ts.length : Int) by omega), rfl⟩
    · exact ⟨rfl, rfl, rfl, rfl, look_int rfl (wrap_i64 (by omega) (by omega)), trivial⟩
    · rw [List.length_set]; exact fil8.1
    · by_cases q : j = i.toNat
      · subst q
        dsimp only
        rw [List.getElem?_set_self (by have := fil8.1; omega), if_pos (by omega)]
        rw [hai] at hx
        injection hx with hx
        rw [hti] at hu
        injection hu with hu
        rw [hx, hu]
      · rw [List.getElem?_set_ne (fun e => q e.symm), fil8.2 j x u hx hu]
        dsimp only
        by_cases q2 : (j : Int) < i
        · rw [if_pos q2, if_pos (by omega)]
        · rw [if_neg q2, if_neg (by omega)]
  obtain ⟨z8, s8, B8, Bs8, I8, fil8, er8⟩ := hJ
  clear fil7 I7 er7
  have hhl := hp.hl
  have er8 : s8.refs = refsH p at_ 0 := by rw [er8]; unfold refsH; simp
  refine Cut_no ?_
  refine LoopC_intro (α := Int) (fun i => [(1, ptr p1), (2, ptr p2), (5, ptr hb), (7, ptr p7), (15, .int .i64 i)])
    (fun m i w' => ∃ z s, Bst w2 w' z p hb q s p7 av at_ ∧ BInv p.c s.ws s.rs B8 op ∧ s.refs = refsH p at_ i.toNat ∧ 0 ≤ i ∧ i ≤ p.hs.length ∧ m = (p.hs.length - i).toNat)
    (p.hs.length - 0 : Int).toNat 0 ⟨rfl, rfl, rfl, rfl, rfl, trivial⟩ ⟨z8, s8, Bs8, I8, er8, Int.le_refl _, (show (0 : Int) ≤ p.hs.length by omega), rfl⟩ (fun m i w9 hJ => Kp ?_)
  obtain ⟨z9, s9, Bs9, I9, er9, i0, i1, hm⟩ := hJ
  have i0 : 0 ≤ i := i0
  have i1 : i ≤ (p.hs.length : Int) := i1
  have hm : m = (p.hs.length - i).toNat := hm
  refine Cut_no ?_
  refine LdC_blk ((P2 Bs9.fr).1) rfl ?_
  refine Br_dec (fun g => ?_) (fun g => ?_)
  rotate_left
  · have g : ¬ i < (p.hs.length : Int) := g
    have b97 := Bs9.b7
    refine LdN_blk (vs := [ptr hb, av]) (b97) rfl rfl ?_
    obtain ⟨aa, ac, eav⟩ := own_slice Bs9.own
    have b92 := (P2 Bs9.fr).2
    refine StN_blk b92 (by rw [eav]; rfl) (Nat.le_of_ble_eq_true rfl) (fun wa ba fa sa => ?_)
    have ba : Blk wa p2 t_gleanerlaw14_Built [ptr hb, av] := ba
    refine LdN_blk (vs := [ptr hb, av]) (ba) rfl rfl ?_
    have ma : Mv z9 z9 (· = 0) w9 wa := Mv.ofZ fa (fun k hk e => by rw [e]; exact Bs9.zo p2 b2.lt)
    have h1 := Bs9.b7.mv Bs9.z7 ma (by decide)
    have h2 := own_mv Bs9.own Bs9.zav ma (by decide)
    have Fw : Fr No w wa := (F2.no Bs9.fr).new fa (fun _ _ e => e) (fun k e => by omega)
    refine ⟨.inr ⟨w, z9, hb, q, s9, p7, av, at_, op, B8, rfl, Nat.le_refl _, ⟨Bs9.h.mv ma (fun i hi e => by omega), h1.1, h1.2, h2.1, h2.2, Fw, fun k hk => Bs9.zo k (by omega), Bs9.fit, Bs9.rf, Bs9.bu, Bs9.bl, Bs9.bb⟩, I9, ⟨eal, fil8, ?_⟩⟩, Fw⟩
    rw [er9, show i.toNat = p.hs.length by omega, List.map_append, List.map_replicate]
    unfold refsH
    rw [List.take_of_length_le (Nat.le_refl _)]; rfl
  have g : i < (p.hs.length : Int) := g
  obtain ⟨l, hli⟩ : ∃ l, p.hs[i.toNat]? = some l := ⟨_, List.getElem?_eq_getElem (by omega)⟩
  have hlb := hp.h l (List.mem_of_getElem? hli)
  have c4 := (hV.ls 2 (p.c.c4, 1, 64) rfl).2
  have c4 : p.c.c4 ≤ 64 := c4
  refine Cut_no ?_
  refine LoopC_intro (α := Int) (fun k => [(1, ptr p1), (2, ptr p2), (5, ptr hb), (7, ptr p7), (15, .int .i64 i), (16, .int .i64 k)])
    (fun m k w' => ∃ z s, Bst w2 w' z p hb q s p7 av at_ ∧ BInv p.c s.ws s.rs B8 op ∧ s.refs = (refsH p at_ i.toNat).set i.toNat ((l.take k.toNat).map (phiA at_)) ∧ 0 ≤ k ∧ k ≤ l.length ∧ m = (l.length - k).toNat)
    (l.length - 0 : Int).toNat 0 ⟨rfl, rfl, rfl, rfl, rfl, rfl, trivial⟩ ⟨z9, s9, Bs9, I9, ?_, Int.le_refl _, (show (0 : Int) ≤ l.length by omega), rfl⟩ (fun m k wa hJ => Kp ?_)
  · obtain ⟨hh, e⟩ := List.getElem?_eq_some_iff.1 (refsH_get (p := p) (at_ := at_) (i := i.toNat) (by omega) (by omega))
    rw [er9]
    show refsH p at_ i.toNat = (refsH p at_ i.toNat).set i.toNat []
    rw [← e]
    exact (List.set_getElem_self hh).symm
  obtain ⟨za, sa, Bsa, Ia, era, k0, k1, hm⟩ := hJ
  have k0 : 0 ≤ k := k0
  have k1 : k ≤ (l.length : Int) := k1
  have hm : m = (l.length - k).toNat := hm
  obtain ⟨ha2, hc2, ehv, _, hhv⟩ := hH.keep F2
  obtain rfl : ha = ha2 := by injection ehv
  obtain ⟨hlr, _, hx, u, eha, hlv, hcell⟩ := hhv i.toNat l hli
  subst eha
  obtain ⟨la, lc, rfl, hlc⟩ := id hlv
  refine Cut_no ?_
  refine LdC_blk ((P2 Bsa.fr).1) rfl ?_
  refine Sd_intro (show 0 ≤ i ∧ i < (p.hs.length : Int) from ⟨i0, g⟩) (Kp ?_)
  refine LdC_intro (v := .slice la l.length lc) (by rw [Nat.mul_one]; exact cell_keep hcell Bsa.fr) (Kp ?_)
  refine Br_dec (fun g5 => ?_) (fun g5 => ?_)
  rotate_left
  · have g5 : ¬ k < (l.length : Int) := g5
    refine ⟨(p.hs.length - (i + 1)).toNat, _, by omega, ?_, i + 1, rfl, za, sa, Bsa, Ia, ?_, (show 0 ≤ i + 1 by omega), (show i + 1 ≤ (p.hs.length : Int) by omega), rfl⟩
    · exact ⟨rfl, rfl, rfl, rfl, look_int rfl (wrap_i64 (by omega) (by omega)), trivial⟩
    · rw [era, List.take_of_length_le (by omega), refsH_set hli (by omega), show (i + 1).toNat = i.toNat + 1 by omega]
  have g5 : k < (l.length : Int) := g5
  obtain ⟨r, hr⟩ : ∃ r, l[k.toNat]? = some r := ⟨_, List.getElem?_eq_getElem (by omega)⟩
  have hrb := hlb.2 r (List.mem_of_getElem? hr)
  obtain ⟨lx, rfl, hlx⟩ : ∃ lx, la = some lx ∧ ∀ (i : Nat) (z : Int), l[i]? = some z → w2.cell? (lx.add i) = some (.int .i64 z) := by
    rcases hlc with e | hlc
    · rw [e] at hr; cases hr
    · exact hlc
  have hcr := hlx _ _ hr
  obtain ⟨rra, rrc, er, hTa⟩ := Bsa.h.cells
  have hbsl := Bsa.h.bsl
  obtain ⟨gr, cap, cur, b, hvr, hgr, hcur, hbr⟩ := Bsa.h.root i0 (show i < (q.bs.length : Int) by omega)
  rw [er] at hvr
  injection hvr with e1 e2 e3
  subst e1
  obtain ⟨aa, ac, eav⟩ := own_slice Bsa.own
  have Da : Fr No wa wa.drew := Fr.drew wa
  have Sa : ∀ {w' : World}, Fr No wa w' → Blk w' hb t_heap_Heap (cfgL p.c ++ geoC p.c ++ [ptr q.ab, ptr q.rb, ptr q.ob, ptr q.cb, ptr q.qb, ptr q.sb, ptr q.mb, .slice (some ⟨gr, 0, none⟩) q.bs.length rrc, .slice (some ⟨q.bf, 0, none⟩) p.c.c3.toNat p.c.c3.toNat]) ∧ Blk w' gr t_p_roots_Stack cur ∧ Blk w' p7 t_gleanerlaw14_Built [ptr hb, av] ∧ Blk w' p1 t_gleanerref14_Plan (planL p (.slice ta p.ts.length tc) (.slice (some hx) p.hs.length hc)) ∧ w'.cell? (hx.add i.toNat) = some (.slice (some lx) l.length lc) ∧ w'.cell? (lx.add k.toNat) = some (.int .i64 r) :=
    fun f => ⟨hTa.keep f id, hgr.keep f id, Bsa.b7.keep f id, (P2 (Bsa.fr.no f)).1, cell_keep hcell (Bsa.fr.no f), cell_keep hcr (Bsa.fr.no f)⟩
  refine Cut_no ?_
  refine AnyC_plan T_ok mixed (planO [0,1,2,3,4,5,6,7,8,9,10,11,12,13,14,15,1016,1017,18]) ((fun w' => Blk w' hb t_heap_Heap (cfgL p.c ++ geoC p.c ++ [ptr q.ab, ptr q.rb, ptr q.ob, ptr q.cb, ptr q.qb, ptr q.sb, ptr q.mb, .slice (some ⟨gr, 0, none⟩) q.bs.length rrc, .slice (some ⟨q.bf, 0, none⟩) p.c.c3.toNat p.c.c3.toNat]) ∧ Blk w' gr t_p_roots_Stack cur ∧ Blk w' p7 t_gleanerlaw14_Built [ptr hb, av] ∧ Blk w' p1 t_gleanerref14_Plan (planL p (.slice ta p.ts.length tc) (.slice (some hx) p.hs.length hc)) ∧ w'.cell? (hx.add i.toNat) = some (.slice (some lx) l.length lc) ∧ w'.cell? (lx.add k.toNat) = some (.int .i64 r))) (by kernel_rfl) (by kernel_rfl) ((Sa (Fr.drew _))) (Kp ?_)
  refine LdS_of (fun w' hw => hw.1) rfl (Kp ?_)
  refine Sd_intro (show 0 ≤ i ∧ i < (q.bs.length : Int) by omega) (Kp ?_)
  refine LdS_ofi (fun w' hw => hw.2.1) hcur (Kp ?_)
  refine LdSN_of (vs := [ptr hb, av]) (fun w' hw => hw.2.2.1) rfl rfl (Kp ?_)
  refine LdS_of (fun w' hw => hw.2.2.2.1) rfl (Kp ?_)
  refine Sd_intro (show 0 ≤ i ∧ i < (p.hs.length : Int) from ⟨i0, g⟩) (Kp ?_)
  refine LdS_intro (v := .slice (some lx) l.length lc) (fun w' hw => by rw [Nat.mul_one]; exact hw.2.2.2.2.1) (Kp ?_)
  refine Sd_intro (show 0 ≤ k ∧ k < (l.length : Int) from ⟨k0, g5⟩) (Kp ?_)
  refine LdS_intro (v := .int .i64 r) (fun w' hw => by rw [Nat.mul_one]; exact hw.2.2.2.2.2) (Kp ?_)
  refine ⟨Kp ?_, trivial⟩
  refine CallC_intro (Ref_spec r _ (Bsa.ints.keep Da (fun _ _ => id)) hbd' hrb.1 (by omega) (by omega)) (fun v wb ⟨hv, fb⟩ => ?_)
  subst hv
  have gb := Da.no fb
  refine Sd_intro (Sa gb) (Kp ?_)
  refine ⟨Kp ?_, trivial⟩
  have hphi := phiA_bd hbd' hrb.1 (show r ≤ at_.length by omega)
  have hrl := refsH_len p at_ i.toNat (by omega) (by omega)
  have hgl : sa.refs[i.toNat]? = some ((l.take k.toNat).map (phiA at_)) := by
    rw [era, List.getElem?_set_self (by omega)]
  refine CallC_intro (Push_H (phiA at_ r) (Bsa.no gb).h hbr hgl (by rw [List.length_map, List.length_take]; omega) (by omega)) (fun v wc ⟨hv, zc, Hc, mc⟩ => ?_)
  subst hv
  have Bsc := (Bsa.no gb).upd mc (fun j e => by omega) Hc (by rw [List.length_set]) rfl ⟨rfl, fun _ h => .inl h⟩
  refine Sd_intro ?_ (Kp ?_)
  · obtain ⟨rra', rrc', er', hTc⟩ := Bsc.h.cells
    rw [er] at er'
    injection er' with q1 q2 q3
    subst q1 q3
    refine ⟨hTc, ?_, Bsc.b7, (P2 Bsc.fr).1, ?_, ?_⟩
    · refine (hgr.keep gb id).keep mc.fr (fun e => ?_)
      have := Bsa.h.rootz gr (by rw [er]; rfl)
      omega
    · exact cell_keep hcell Bsc.fr
    · exact cell_keep hcr Bsc.fr
  refine ⟨(l.length - (k + 1)).toNat, _, by omega, ?_, k + 1, rfl, zc, _, Bsc, Ia, ?_, (show 0 ≤ k + 1 by omega), (show k + 1 ≤ (l.length : Int) by omega), rfl⟩
  · exact ⟨rfl, rfl, rfl, rfl, rfl, look_int rfl (wrap_i64 (by omega) (by omega)), trivial⟩
  · show sa.refs.set i.toNat ((l.take k.toNat).map (phiA at_) ++ [phiA at_ r]) = _
    rw [era, List.set_set, show (k + 1).toNat = k.toNat + 1 by omega, List.take_add_one, hr, List.map_append]; rfl
end Go.Proofs.YtdhbpklmkibmbaaGreat
/- The shape of a plan's heap is its graph's, in plain Lean. -/
namespace Go.Proofs.YtdhbpklmkibmbaaGreat
open Go.Vc

theorem rowObs_cons (ws l : List Int) (a : Int) : rowObs ws (a :: l) = rowObs ws [a] ++ rowObs ws l := by
  rw [show a :: l = [a] ++ l from rfl]
  unfold rowObs; rw [List.filterMap_append]
theorem rowObs_lt {ws : List Int} : ∀ {l : List Int}, l.Pairwise (· < ·) → (rowObs ws l).Pairwise (fun o o' => o.at_ < o'.at_) := by
  intro l
  induction l with
  | nil => intro _; exact List.Pairwise.nil
  | cons a l ih =>
    intro h
    rw [List.pairwise_cons] at h
    rw [rowObs_cons]
    refine List.pairwise_append.2 ⟨?_, ih h.2, fun o ho o' ho' => ?_⟩
    · unfold rowObs
      rw [List.filterMap_cons]
      split
      · exact List.Pairwise.nil
      · exact List.pairwise_singleton _ _
    · have h1 := List.mem_singleton.1 (rowObs_mem ho).1
      have h2 := h.1 _ (rowObs_mem ho').1
      omega
theorem ks_lt {w : World} {z : Nat → Nat} {c : Cfg} {hb : Nat} {p : HP} {s : HS} (h : HeapAt w z c hb p s) : ∀ (n : Nat) (L : List Ob), (n : Int) ≤ c.c1 → objsF c s n = some L → L.Pairwise (fun o o' => o.at_ < o'.at_) := by
  intro n
  induction n with
  | zero =>
    intro L _ e
    have e : some [] = some L := e
    injection e with e
    subst e
    exact List.Pairwise.nil
  | succ n ih =>
    intro L hn e
    unfold objsF at e
    split at e
    · rename_i M l e1 e2
      injection e with e
      subst e
      have hr := rowS_in h (show (0 : Int) ≤ n by omega) (by omega) e2
      refine List.pairwise_append.2 ⟨ih M (by omega) e1, rowObs_lt hr.1, fun o ho o' ho' => ?_⟩
      have h1 := objsF_lt h n M (by omega) e1 o ho
      have h2 := hr.2 _ (rowObs_mem ho').1
      omega
    · cases e
theorem ks_nodup {w : World} {z : Nat → Nat} {c : Cfg} {hb : Nat} {p : HP} {s : HS} (h : HeapAt w z c hb p s) {L : List Ob} (e : okS c s = some L) : (Ks L).Nodup := by
  unfold okS at e
  split at e
  · rename_i M e1
    split at e
    · injection e with e
      subst e
      have := ks_lt h c.c1.toNat M (by have := h.ok.r0; omega) e1
      unfold Ks
      refine List.pairwise_map.2 (this.imp fun q => by omega)
    · cases e
  · cases e
/-- A plan's graph. -/
def gP (ts : List Th) (r : Int) : GObj := if 1 ≤ r then (match ts[r.toNat - 1]? with | some t => (t.refs, t.data) | none => ([], [])) else ([], [])
theorem gP_get {ts : List Th} {j : Nat} {t : Th} (h : ts[j]? = some t) : gP ts ((j : Int) + 1) = (t.refs, t.data) := by
  unfold gP
  rw [if_pos (by omega), show ((j : Int) + 1).toNat - 1 = j by omega, h]
section
variable {p : Pl} {at_ : List Int} {B : List LObj} {ws : List Int} {rs : List R} {E F : Int → Int} {H : Int → Prop}
/-- No two things have an address. -/
theorem Fil.inj (hL : Laid p.c ws rs F E H B) (hf : Fil at_ p.ts (fun _ => linW at_) B) (hl : at_.length = p.ts.length) {i j : Nat} {a : Int} (hi : at_[i]? = some a) (hj : at_[j]? = some a) : i = j := by
  apply Classical.byContradiction
  intro ne
  have hil := (List.getElem?_eq_some_iff.1 hi).1
  have hjl := (List.getElem?_eq_some_iff.1 hj).1
  have b1 := hf.2 i a _ hi (List.getElem?_eq_getElem (show i < p.ts.length by omega))
  have b2 := hf.2 j a _ hj (List.getElem?_eq_getElem (show j < p.ts.length by omega))
  obtain ⟨q1, e1⟩ := List.getElem?_eq_some_iff.1 b1
  obtain ⟨q2, e2⟩ := List.getElem?_eq_some_iff.1 b2
  have n1 := linW_len at_ (p.ts[i]'(by omega))
  have n2 := linW_len at_ (p.ts[j]'(by omega))
  have hpw := List.pairwise_iff_getElem.1 hL.apart
  rcases Nat.lt_or_gt_of_ne ne with q | q
  · have := hpw i j q1 q2 q
    rw [e1, e2] at this
    unfold Off at this
    dsimp only at this
    omega
  · have := hpw j i q2 q1 q
    rw [e1, e2] at this
    unfold Off at this
    dsimp only at this
    omega
theorem fil_mem (hp : PlanOk p) (hf : Fil at_ p.ts (fun _ => linW at_) B) {j : Nat} {a : Int} {t : Th} (ha : at_[j]? = some a) (ht : p.ts[j]? = some t) : ∃ b ∈ B, obB b = ⟨a, t.refs.map (phiA at_), t.data⟩ := by
  refine ⟨_, List.mem_of_getElem? (hf.2 j a t ha ht), ?_⟩
  have := hp.size (List.mem_of_getElem? ht)
  rw [size_nat] at this
  unfold linW
  exact obB_objW (by rw [List.length_map]; omega)
theorem shape_plan {w : World} {z : Nat → Nat} {hb : Nat} {q : HP} {s : HS} {L : List Ob} (hp : PlanOk p) (hh : HeapAt w z p.c hb q s) (hL : Laid p.c s.ws s.rs F E H B) (hf : Fil at_ p.ts (fun _ => linW at_) B) (hl : at_.length = p.ts.length)
    (ok : okS p.c s = some L) (hm : ∀ o, o ∈ L ↔ ∃ b ∈ B, o = obB b) {ss : List (List Int)} (hs : s.refs = ss.map (·.map (phiA at_))) (hss : ∀ l ∈ ss, ∀ r ∈ l, 0 ≤ r ∧ r ≤ p.ts.length) :
    shapeF L s.refs = shapeO (gP p.ts) ss (orderN (gP p.ts) ss p.ts.length) := by
  have nd := ks_nodup hh ok
  have hA : Alike (phiA at_) (fun r => 1 ≤ r ∧ r ≤ p.ts.length) (gP p.ts) (gOf L) := by
    have ob : ∀ r, 1 ≤ r ∧ r ≤ (p.ts.length : Int) → ∃ a t, at_[r.toNat - 1]? = some a ∧ p.ts[r.toNat - 1]? = some t ∧ phiA at_ r = a + 1 ∧ 0 ≤ a ∧ gOf L (a + 1) = (t.refs.map (phiA at_), t.data) ∧ gP p.ts r = (t.refs, t.data) := fun r hr => by
      have ha : at_[r.toNat - 1]? = some (at_[r.toNat - 1]'(by omega)) := List.getElem?_eq_getElem (by omega)
      have ht : p.ts[r.toNat - 1]? = some (p.ts[r.toNat - 1]'(by omega)) := List.getElem?_eq_getElem (by omega)
      obtain ⟨b, hb, e⟩ := fil_mem hp hf ha ht
      have h1 := gOf_mem nd _ ((hm _).2 ⟨b, hb, rfl⟩)
      rw [e] at h1
      have h2 := (hL.len _ (List.mem_of_getElem? (hf.2 _ _ _ ha ht))).1
      refine ⟨_, _, ha, ht, ?_, h2, h1, ?_⟩
      · unfold phiA
        rw [if_neg (by omega), ha]; rfl
      · have := gP_get ht
        rw [show (((r.toNat - 1 : Nat)) : Int) + 1 = r by omega] at this
        exact this
    refine ⟨fun a b ha hb' e => ?_, rfl, fun a ha => ?_, fun a ha => ?_, fun a ha => ?_, fun r hr x hx => ?_⟩
    · obtain ⟨x, _, h1, _, h2, _⟩ := ob a ha
      obtain ⟨y, _, h3, _, h4, _⟩ := ob b hb'
      rw [h2, h4] at e
      have : x = y := by omega
      subst this
      have := hf.inj hL hl h1 h3
      omega
    · obtain ⟨x, _, _, _, h2, h3, _⟩ := ob a ha
      rw [h2]; omega
    · obtain ⟨x, t, _, _, h2, _, h4, h5⟩ := ob a ha
      rw [h2, h4, h5]
    · obtain ⟨x, t, _, _, h2, _, h4, h5⟩ := ob a ha
      rw [h2, h4, h5]
    · obtain ⟨y, t, _, ht, _, _, _, h5⟩ := ob r hr
      rw [h5] at hx
      have := (hp.t t (List.mem_of_getElem? ht)).2.2.2.2.2 x hx
      omega
  have hS : ∀ l ∈ ss, ∀ r ∈ l, r = 0 ∨ (1 ≤ r ∧ r ≤ (p.ts.length : Int)) := fun l hl' r hr => by
    have := hss l hl' r hr
    omega
  have sh := (hA.shape hS L.length).2
  unfold shapeF
  rw [hs, sh]
  -- the steps
  have hN : p.ts.length ≤ L.length := by
    have k1 : (at_.map (· + 1)).length ≤ (Ks L).length := by
      refine sub_len ?_ fun r hr => ?_
      · refine List.pairwise_map.2 (List.pairwise_iff_getElem.2 fun i j hi hj hij e => ?_)
        have e : at_[i] = at_[j] := by omega
        have := hf.inj hL hl (i := i) (j := j) (List.getElem?_eq_getElem hi) (by rw [List.getElem?_eq_getElem hj, e])
        omega
      · obtain ⟨a, ha, rfl⟩ := List.mem_map.1 hr
        obtain ⟨j, hj, e⟩ := List.getElem_of_mem ha
        obtain ⟨b, hb, e2⟩ := fil_mem hp hf (j := j) (a := a) (by rw [List.getElem?_eq_getElem hj, e]) (List.getElem?_eq_getElem (show j < p.ts.length by omega))
        unfold Ks
        exact List.mem_map.2 ⟨obB b, (hm _).2 ⟨b, hb, rfl⟩, by rw [e2]⟩
    rw [List.length_map, hl] at k1
    unfold Ks at k1
    rw [List.length_map] at k1
    exact k1
  have len : (orderN (gP p.ts) ss p.ts.length).length ≤ 0 + p.ts.length := by
    have h1 : ∀ r ∈ orderN (gP p.ts) ss p.ts.length, r ∈ (List.range p.ts.length).map fun k : Nat => (k : Int) + 1 := fun r hr => by
      have := order_all (gP p.ts) hS hA.clo p.ts.length r hr
      exact List.mem_map.2 ⟨r.toNat - 1, List.mem_range.2 (by omega), by omega⟩
    have := sub_len (order_nodup (gP p.ts) ss p.ts.length) h1
    simpa using this
  obtain ⟨k, hk⟩ : ∃ k, L.length = p.ts.length + k := ⟨L.length - p.ts.length, by omega⟩
  rw [hk]
  unfold orderN
  rw [bfsF_more (gP p.ts) k p.ts.length 0 _ len]
end
end Go.Proofs.YtdhbpklmkibmbaaGreat
/- What is known of a built heap, in plain Lean. -/
namespace Go.Proofs.YtdhbpklmkibmbaaGreat
open Go.Vc

theorem ends_zero {c : Cfg} {s : HS} {n : Nat} (h : s.bufs = List.replicate n (0, 0)) : endS c s = topS (P c) s.rs := by
  funext r
  unfold endS
  rw [h]
  generalize topS (P c) s.rs r = e
  induction n generalizing s with
  | zero => rfl
  | succ n ih =>
    rw [List.replicate_succ, List.foldl_cons]
    have : endF c r e (0, 0) = e := by
      unfold endF
      rw [if_neg (fun q => absurd q.1 (by decide))]
    rw [this]
    exact ih (s := { s with bufs := List.replicate n (0, 0) }) rfl
theorem BInv.at_ends {c : Cfg} {s : HS} {B : List LObj} {op : List Int} {n : Nat} (h : BInv c s.ws s.rs B op) (hb : s.bufs = List.replicate n (0, 0)) : Laid c s.ws s.rs (endS c s) (topS (P c) s.rs) (fun _ => False) B := by
  rw [ends_zero hb]; exact h.laid
theorem known_set {B : List LObj} {i : Nat} {a : Int} {W W0 : List Int} (hi : B[i]? = some (a, W0)) {l : List Int} (h : KnownL B l) : KnownL (B.set i (a, W)) l := by
  have hil := (List.getElem?_eq_some_iff.1 hi).1
  intro r hr
  rcases h r hr with e | ⟨d, hd, e⟩
  · exact .inl e
  · right
    obtain ⟨j, hj, ej⟩ := List.getElem_of_mem hd
    by_cases q : j = i
    · subst q
      rw [List.getElem?_eq_getElem hj, ej] at hi
      injection hi with hi
      exact ⟨_, List.mem_of_getElem? (List.getElem?_set_self hil), by rw [e, hi]⟩
    · exact ⟨d, List.mem_of_getElem? (i := j) (by rw [List.getElem?_set_ne (fun e => q e.symm), List.getElem?_eq_getElem hj, ej]), e⟩
section
variable {p : Pl} {s : HS} {at_ : List Int} {B : List LObj}
theorem obB_lin (hp : PlanOk p) {t : Th} (ht : t ∈ p.ts) (a : Int) : obB (a, linW at_ t) = ⟨a, t.refs.map (phiA at_), t.data⟩ := by
  have := (hp.size ht).1
  rw [size_nat] at this
  unfold linW
  exact obB_objW (by rw [List.length_map]; omega)
theorem BuiltS.known (U : BuiltS p s at_ B) (hp : PlanOk p) : ∀ b ∈ B, KnownL B (obB b).refs := fun b hb => by
  obtain ⟨j, a, t, h1, h2, _, e⟩ := U.fil.get U.len hb
  have ht := List.mem_of_getElem? h2
  rw [e, obB_lin hp ht]
  exact U.fil.known U.len (hp.t t ht).2.2.2.2.2
theorem BuiltS.rknown (U : BuiltS p s at_ B) (hp : PlanOk p) : ∀ l ∈ s.refs, KnownL B l := fun l hl => by
  rw [U.refs] at hl
  obtain ⟨m, hm, rfl⟩ := List.mem_map.1 hl
  rcases List.mem_append.1 hm with q | q
  · exact U.fil.known U.len (hp.h m q).2
  · rw [(List.mem_replicate.1 q).2]
    intro r hr; cases hr
/-- One word is written over. -/
theorem brk_refs (hp : PlanOk p) {t : Th} (ht : t ∈ p.ts) (a to : Int) {k : Nat} (hk : k < t.refs.length) : obB (a, (linW at_ t).set (1 + k) to) = ⟨a, (t.refs.map (phiA at_)).set k to, t.data⟩ := by
  have := (hp.size ht).1
  rw [size_nat] at this
  unfold linW
  rw [objW_setR to (by rw [List.length_map]; exact hk)]
  exact obB_objW (by rw [List.length_set, List.length_map]; omega)
theorem brk_good (U : BuiltS p s at_ B) (hp : PlanOk p) {i k : Nat} {a to : Int} {t : Th} (ht : p.ts[i]? = some t) (hB : B[i]? = some (a, linW at_ t)) (hk : k < t.refs.length) (hg : to = 0 ∨ ∃ d ∈ B, to = d.1 + 1) :
    (∀ b ∈ B.set i (a, (linW at_ t).set (1 + k) to), KnownL (B.set i (a, (linW at_ t).set (1 + k) to)) (obB b).refs) ∧ ∀ l ∈ s.refs, KnownL (B.set i (a, (linW at_ t).set (1 + k) to)) l := by
  have htm := List.mem_of_getElem? ht
  refine ⟨fun b hb => ?_, fun l hl => known_set hB (U.rknown hp l hl)⟩
  rcases List.mem_or_eq_of_mem_set hb with q | q
  · exact known_set hB (U.known hp b q)
  · rw [q, brk_refs hp htm a to hk]
    refine known_set hB fun r hr => ?_
    rcases List.mem_or_eq_of_mem_set hr with e | e
    · exact U.fil.known U.len (hp.t t htm).2.2.2.2.2 r e
    · rw [e]; exact hg
theorem brk_bad (hp : PlanOk p) {i k : Nat} {a to : Int} {t : Th} (ht : p.ts[i]? = some t) (hB : B[i]? = some (a, linW at_ t)) (hk : k < t.refs.length) (hg : ¬ (to = 0 ∨ ∃ d ∈ B, to = d.1 + 1)) :
    ∃ b ∈ B.set i (a, (linW at_ t).set (1 + k) to), ¬ KnownL (B.set i (a, (linW at_ t).set (1 + k) to)) (obB b).refs := by
  have htm := List.mem_of_getElem? ht
  have hil := (List.getElem?_eq_some_iff.1 hB).1
  refine ⟨_, List.mem_of_getElem? (List.getElem?_set_self hil), fun h => hg ?_⟩
  rw [brk_refs hp htm a to hk] at h
  have := h to (List.mem_of_getElem? (i := k) (List.getElem?_set_self (by rw [List.length_map]; exact hk)))
  rcases this with e | ⟨d, hd, e⟩
  · exact .inl e
  · right
    rcases List.mem_or_eq_of_mem_set hd with q | q
    · exact ⟨d, q, e⟩
    · exact ⟨_, List.mem_of_getElem? hB, by rw [e, q]⟩
theorem BuiltS.addr (U : BuiltS p s at_ B) {x : Int} : (∃ d ∈ B, x = d.1 + 1) ↔ ∃ a ∈ at_, x = a + 1 := by
  constructor
  · rintro ⟨d, hd, e⟩
    obtain ⟨j, a, t, h1, _, _, e2⟩ := U.fil.get U.len hd
    exact ⟨a, List.mem_of_getElem? h1, by rw [e, e2]⟩
  · rintro ⟨a, ha, e⟩
    obtain ⟨j, hj, ej⟩ := List.getElem_of_mem ha
    have hl := U.len
    exact ⟨_, List.mem_of_getElem? (U.fil.2 j a _ (by rw [List.getElem?_eq_getElem hj, ej]) (List.getElem?_eq_getElem (show j < p.ts.length by omega))), e⟩
end
/-- An index out of a number. -/
def ixN (x n : Int) : Int := (IntKind.i64.wrap (x.tmod n + n)).tmod n
theorem ixN_in {x n : Int} (h1 : 1 ≤ n) (h2 : n ≤ 1000000000) : 0 ≤ ixN x n ∧ ixN x n < n := by
  have a1 := Int.lt_tmod_of_pos x (show (0 : Int) < n by omega)
  have a2 := Int.tmod_lt_of_pos x (show (0 : Int) < n by omega)
  unfold ixN
  rw [wrap_i64 (by omega) (by omega), tmod_eq (by omega)]
  exact ⟨Int.emod_nonneg _ (by omega), Int.emod_lt_of_pos _ (by omega)⟩
end Go.Proofs.YtdhbpklmkibmbaaGreat
