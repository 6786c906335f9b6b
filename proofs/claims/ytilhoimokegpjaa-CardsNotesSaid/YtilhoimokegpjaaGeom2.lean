/- Layer 2 (geom): may, New. -/
import Derived.Test.YtilhoimokegpjaaGeom1
namespace Go.Proofs.Ytilhoimokegpjaa
open Go.Vc

structure Cfg where
  c0 : Int
  c1 : Int
  c2 : Int
  c3 : Int
  c4 : Int
  c5 : Int
  c6 : Int
  c7 : Int
  c8 : Int
  c9 : Int
  c10 : Int
  c11 : Int
  c12 : Int
  c13 : Int
def cfgL (c : Cfg) : List Value := [.int .i64 c.c0, .int .i64 c.c1, .int .i64 c.c2, .int .i64 c.c3, .int .i64 c.c4, .int .i64 c.c5, .int .i64 c.c6, .int .i64 c.c7, .int .i64 c.c8, .int .i64 c.c9, .int .i64 c.c10, .int .i64 c.c11, .int .i64 c.c12, .int .i64 c.c13]
def cfgV (c : Cfg) : Value := .agg (cfgL c).toArray
def flat3 (rs : List (Int × Int × Int)) : List Value := rs.flatMap fun x => [.int .i64 x.1, .int .i64 x.2.1, .int .i64 x.2.2]
theorem flat3_take : ∀ {rs : List (Int × Int × Int)} {k : Nat} {x : Int × Int × Int}, rs[k]? = some x → ((flat3 rs).drop (3 * k)).take 3 = [.int .i64 x.1, .int .i64 x.2.1, .int .i64 x.2.2] := by
  intro rs
  induction rs with
  | nil => intro k x h; cases h
  | cons y rs ih =>
    intro k x h
    cases k with
    | zero => simp only [List.getElem?_cons_zero, Option.some.injEq] at h; subst h; rfl
    | succ k =>
      have := ih (k := k) (x := x) (by simpa using h)
      simpa [flat3, show 3 * (k + 1) = 3 * k + 3 by omega] using this
def lims (c : Cfg) : List (Int × Int × Int) := [(c.c2, 3, c.c0), (c.c3, 1, 64), (c.c4, 1, 64), (c.c5, 0, 8), (c.c6, 0, 8), (c.c7, 1, c.c1), (c.c8, 0, 7), (c.c9, 0, 65536), (c.c10, 0, 65536), (c.c11, 0, 4194304), (c.c12, 0, 100), (c.c13, 0, 65536)]
structure Valid (c : Cfg) : Prop where
  s0 : 6 ≤ c.c0
  s1 : c.c0 ≤ 20
  r0 : 2 ≤ c.c1
  r1 : c.c1 ≤ 65536
  r2 : c.c1 ≤ 4194304 / 2 ^ c.c0.toNat
  ls : ∀ (k : Nat) (x : Int × Int × Int), (lims c)[k]? = some x → x.2.1 ≤ x.1 ∧ x.1 ≤ x.2.2
theorem may_spec (c : Cfg) (w : World) : CallC Pr f_geom_may [cfgV c] w (fun v w' => ∃ ok : Bool, v = .bool ok ∧ (ok = true ↔ Valid c) ∧ Fr No w w') := by
  refine call_sound T_ok fun_geom_may rfl (by kernel_rfl) rfl ?_
  refine NewC_blk (fun b w1 hb h1 f1 _ => ?_)
  have h1 : Blk w1 b t_api_Config (cfgL c) := h1
  have no : ∀ w' : World, ¬ Valid c → Fr No w w' → ∃ ok : Bool, Value.bool false = .bool ok ∧ (ok = true ↔ Valid c) ∧ Fr No w w' := fun w' hn f => ⟨false, rfl, ⟨fun h => (by cases h), fun h => absurd h hn⟩, f⟩
  refine LdC_blk h1 rfl ?_
  refine Br_dec (fun g0 => no _ (fun h => by have := h.s0; have g0 : c.c0 < 6 := g0; omega) f1) (fun g0 => ?_)
  refine LdC_blk h1 rfl ?_
  refine Br_dec (fun g1 => no _ (fun h => by have := h.s1; have g1 : c.c0 > 20 := g1; omega) f1) (fun g1 => ?_)
  refine LdC_blk h1 rfl ?_
  refine Br_dec (fun g2 => no _ (fun h => by have := h.r0; have g2 : c.c1 < 2 := g2; omega) f1) (fun g2 => ?_)
  refine LdC_blk h1 rfl ?_
  refine Br_dec (fun g3 => no _ (fun h => by have := h.r1; have g3 : c.c1 > 65536 := g3; omega) f1) (fun g3 => ?_)
  have g0 : ¬ c.c0 < 6 := g0
  have g1 : ¬ c.c0 > 20 := g1
  have g2 : ¬ c.c1 < 2 := g2
  have g3 : ¬ c.c1 > 65536 := g3
  refine LdC_blk h1 rfl ?_
  refine LdC_blk h1 rfl ?_
  have ew : IntKind.u64.wrap c.c0 = c.c0 := wrap_u64 (by omega) (by omega)
  refine Sd_intro (show 0 ≤ IntKind.u64.wrap c.c0 by rw [ew]; omega) ?_
  have es : shiftV .shr .i64 4194304 (IntKind.u64.wrap c.c0).toNat = 4194304 / 2 ^ c.c0.toNat := by rw [ew, shr_i64 _ (by omega)]
  refine Br_dec (fun g4 => no _ (fun h => by
    have := h.r2
    have g4 : c.c1 > shiftV .shr .i64 4194304 (IntKind.u64.wrap c.c0).toNat := g4
    rw [es] at g4; omega) f1) (fun g4 => ?_)
  have g4 : ¬ c.c1 > shiftV .shr .i64 4194304 (IntKind.u64.wrap c.c0).toNat := g4
  rw [es] at g4
  refine LdC_blk h1 rfl ?_
  refine LdC_blk h1 rfl ?_
  refine LdC_blk h1 rfl ?_
  refine LdC_blk h1 rfl ?_
  refine LdC_blk h1 rfl ?_
  refine LdC_blk h1 rfl ?_
  refine LdC_blk h1 rfl ?_
  refine LdC_blk h1 rfl ?_
  refine LdC_blk h1 rfl ?_
  refine LdC_blk h1 rfl ?_
  refine LdC_blk h1 rfl ?_
  refine LdC_blk h1 rfl ?_
  refine LdC_blk h1 rfl ?_
  refine LdC_blk h1 rfl ?_
  refine NewC_blk (fun b2 w2 hb2 h2 f2 _ => ?_)
  have h2 := h2.of_eq (cs' := flat3 (lims c)) (by kernel_rfl)
  have f2 := f1.no f2
  refine LoopC_intro (α := Int) (fun i => [(72, .slice (some ⟨b2, 0, none⟩) 12 12), (73, .int .i64 12), (74, .int .i64 i)])
    (fun m i w3 => Blk w3 b2 113 (flat3 (lims c)) ∧ Fr No w w3 ∧ 0 ≤ i ∧ i ≤ 12 ∧ m = (12 - i).toNat ∧ ∀ (k : Nat) (x : Int × Int × Int), (k : Int) < i → (lims c)[k]? = some x → x.2.1 ≤ x.1 ∧ x.1 ≤ x.2.2)
    (12 - 0 : Int).toNat 0 ⟨rfl, rfl, rfl, trivial⟩ ⟨h2, f2, (show (0 : Int) ≤ 0 by omega), (show (0 : Int) ≤ 12 by omega), rfl, fun k x hk => (by have : (k : Int) < 0 := hk; omega)⟩ ?_
  rintro m i w3 ⟨h3, f3, i0, i1, hm, hall⟩
  refine Br_dec (fun e0 => ?_) (fun e0 => ?_)
  · have e0 : i < 12 := e0
    refine Sd_intro ⟨i0, e0⟩ ?_
    have hi : i.toNat < (lims c).length := by show i.toNat < 12; omega
    have hx := List.getElem?_eq_getElem hi
    generalize (lims c)[i.toNat] = x at hx
    refine LdN_idx (vs := [.int .i64 x.1, .int .i64 x.2.1, .int .i64 x.2.2]) h3 (by rw [Nat.zero_add, Nat.mul_comm]; exact flat3_take hx) rfl ?_
    refine NewC_blk (fun p w4 hp h4 f4 _ => ?_)
    refine StN_blk h4 rfl (Nat.le_refl 3) (fun w5 h5 f5 _ => ?_)
    have f35 : Fr No w3 w5 := f4.new f5 (fun _ _ e => e) (fun k e => by omega)
    have f5 := f3.no f35
    refine LdC_blk h5 (v := .int .i64 x.1) rfl ?_
    refine LdC_blk h5 (v := .int .i64 x.2.1) rfl ?_
    refine Br_dec (fun q0 => no _ (fun h => by have := h.ls _ x hx; have q0 : x.1 < x.2.1 := q0; omega) f5) (fun q0 => ?_)
    refine LdC_blk h5 (v := .int .i64 x.1) rfl ?_
    refine LdC_blk h5 (v := .int .i64 x.2.2) rfl ?_
    refine Br_dec (fun q1 => no _ (fun h => by have := h.ls _ x hx; have q1 : x.1 > x.2.2 := q1; omega) f5) (fun q1 => ?_)
    have ei : IntKind.i64.wrap (i + 1) = i + 1 := wrap_i64 (by omega) (by omega)
    refine ⟨(12 - (i + 1)).toNat, _, by omega, ?_, i + 1, rfl, h3.keep f35 id, f5, by omega, by omega, rfl, fun k y hk hy => ?_⟩
    · exact ⟨rfl, rfl, look_int rfl ei, trivial⟩
    · by_cases e : (k : Int) < i
      · exact hall k y e hy
      · have : k = i.toNat := by omega
        subst this
        rw [hx] at hy
        injection hy with hy
        subst hy
        have q0 : ¬ x.1 < x.2.1 := q0
        have q1 : ¬ x.1 > x.2.2 := q1
        omega
  · have e0 : ¬ i < 12 := e0
    refine ⟨true, rfl, ⟨fun _ => ⟨by omega, by omega, by omega, by omega, by omega, fun k x hx => hall k x ?_ hx⟩, fun _ => rfl⟩, f3⟩
    have := (List.getElem?_eq_some_iff.1 hx).1
    have : k < 12 := this
    omega
end Go.Proofs.Ytilhoimokegpjaa
