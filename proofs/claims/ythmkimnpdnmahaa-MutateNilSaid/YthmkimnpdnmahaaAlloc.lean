/- Layer 15 (mutate): an allocation's first step, of what isn't big. -/
import Derived.Test.YthmkimnpdnmahaaPlace
namespace Go.Proofs.Ythmkimnpdnmahaa
open Go.Vc

theorem alloc_fresh {c : Cfg} {p : HP} {hb sh mb : Nat} {z : Nat → Nat} {s : HS} {t : Int} {m : Mu} {x : Int × Int} {l : List Int} (w : World) (h : HeapAt w z c hb p s) (hm : Blk w mb t_mutate_Mutator (mutL hb sh t m)) (h0 : 0 ≤ t) (hx : s.bufs[t.toNat]? = some x)
    (hz : z mb = 500 + t.toNat) (hl : s.refs[t.toNat]? = some l) (hph : m.phase ≠ 5) (hsz : sizeE (min 1048576 (c.c1 * P c - P c)) m.a m.b (c.c4 - l.length) = 0) (hn2 : 1 + m.a + m.b ≤ P c / 2) (hxb : 0 ≤ x.1 ∧ x.1 ≤ 4194304 ∧ 0 ≤ x.2 ∧ x.2 ≤ 4194304) (hxr : x.1 < x.2 → x.1 < c.c1 * P c) :
    CallC Pr f_mutate_Mutator_alloc [ptr mb] w (fun r w' => ∃ ok pos s' z', Placed c t.toNat (1 + m.a + m.b) x s ok pos s' ∧ HeapAt w' z' c hb p s' ∧ Mv z z' (fun i => i = 3 ∨ i = 10 ∨ i = 500 + t.toNat) w w' ∧
      r = .agg (resL ans0 false true (!ok) (.slice none 0 0)).toArray ∧ Blk w' mb t_mutate_Mutator (mutL hb sh t ⟨m.done, if ok then 5 else 6, m.k, m.a, m.b, m.c, m.v, if ok then pos else m.pos⟩)) := by
  have hp := P_le h.ok
  have hbl := h.bufl
  have tl := (List.getElem?_eq_some_iff.1 hx).1
  have ht : t < (p.bs.length : Int) := by have := h.bsl; omega
  have hab : 0 ≤ m.a ∧ 0 ≤ m.b := by
    unfold sizeE at hsz
    split at hsz
    · cases hsz
    · omega
  refine call_sound T_ok fun_mutate_Mutator_alloc rfl (by kernel_rfl) rfl (Kp ?_)
  refine NewC_blk (fun q w1 hq h1 f1 s1 => ?_)
  have h1 : Blk w1 q t_mutate_Result res0 := h1
  have m1 : Mv z (zput z q 9999) (fun _ => False) w w1 := (Mv.of f1).put (by omega)
  obtain ⟨z1, zq, m1⟩ : ∃ z1 : Nat → Nat, z1 q = 9999 ∧ Mv z z1 (fun _ => False) w w1 := ⟨_, zput_self, m1⟩
  have hmz1 := hm.mv hz m1 id
  have H1 := h.mv m1 (fun _ _ => id)
  refine LdC_blk hmz1.1 rfl ?_
  refine Br_nt hph ?_
  refine CallC_intro (size_spec w1 H1 hmz1.1 h0 ht hl) (fun v w2 ⟨hv, f2⟩ => ?_)
  rw [hsz] at hv
  subst hv
  have H2 := H1.mv (Mv.of (S := fun _ => False) f2) (fun _ _ => id)
  have hm2 := hmz1.1.keep f2 id
  refine AnyC_lex T_ok mixed (by kernel_rfl) (by kernel_rfl) (Kp ?_)
  refine LdS_blk hm2 rfl ?_
  refine LdS_blk hm2 rfl ?_
  have f2d := f2.no (Fr.drew w2)
  have H2 := H1.mv (Mv.of (S := fun _ => False) f2d) (fun _ _ => id)
  have hm2 := hmz1.1.keep f2d id
  have h12 := h1.keep f2d id
  refine LdC_blk hm2 rfl ?_
  refine Br_nt hph ?_
  have ew : IntKind.i64.wrap (IntKind.i64.wrap (1 + m.a) + m.b) = 1 + m.a + m.b := by
    rw [wrap_i64 (n := 1 + m.a) (by omega) (by omega), wrap_i64 (by omega) (by omega)]
  have hPl := place_spec (1 + m.a + m.b) w2.drew H2 hm2 h0 hx (by rw [hmz1.2]; omega) (by omega) hn2 hxb hxr
  rw [← ew] at hPl
  refine CallC_intro hPl (fun v w3 ⟨ok, pos, s', hv, hP, H3, m3⟩ => ?_)
  rw [ew] at hP
  subst hv
  have M3 : Mv z z1 (fun i => i = 3 ∨ i = 10 ∨ i = 500 + t.toNat) w w3 := (m1.no f2d).trans m3 (fun _ e => e.elim) (fun _ e => by rcases e with e | e; exact .inl e; exact .inr (.inl e))
  have hm3 := hm2.mv hmz1.2 m3 (fun e => by rcases e with e | e <;> omega)
  have h13 := h12.mv zq m3 (fun e => by rcases e with e | e <;> cases e)
  have nq : q ≠ mb := by have := hm.lt; omega
  cases ok with
  | false =>
    refine StC_blk hm3.1 rfl rfl (fun w4 h4 f4 _ => ?_)
    have m4 : Mv z1 z1 (· = 500 + t.toNat) w3 w4 := Mv.ofZ f4 (fun k _ e => by rw [e]; exact hm3.2)
    have H4 := H3.mv m4 (fun i hi e => by omega)
    have h14 := h13.1.keep f4 nq
    refine StN_blk h14 rfl (Nat.le_of_ble_eq_true rfl) (fun w5 h5 f5 _ => ?_)
    have h5 : Blk w5 q t_mutate_Result (resL ans0 false true true (.slice none 0 0)) := h5
    have m5 : Mv z1 z1 (· = 9999) w4 w5 := Mv.ofZ f5 (fun k _ e => by rw [e]; exact zq)
    have H5 := H4.mv m5 (fun i hi e => by omega)
    refine LdN_blk (vs := resL ans0 false true true (.slice none 0 0)) h5 rfl rfl ?_
    exact ⟨false, pos, s', z1, hP, H5, (M3.trans m4 (fun _ e => e) (fun _ e => .inr (.inr e))).new f5 (fun k e => by have e : k = q := e; omega), rfl, h4.keep f5 nq.symm⟩
  | true =>
    refine StC_blk hm3.1 rfl rfl (fun w4 h4 f4 _ => ?_)
    have h4 : Blk w4 mb t_mutate_Mutator (mutL hb sh t ⟨m.done, m.phase, m.k, m.a, m.b, m.c, m.v, pos⟩) := h4
    have m4 : Mv z1 z1 (· = 500 + t.toNat) w3 w4 := Mv.ofZ f4 (fun k _ e => by rw [e]; exact hm3.2)
    have H4 := H3.mv m4 (fun i hi e => by omega)
    have h14 := h13.1.keep f4 nq
    refine CallC_intro (on_spec 5 w4 h4) (fun v w5 ⟨hv, h5, f5⟩ => ?_)
    subst hv
    have m5 : Mv z1 z1 (· = 500 + t.toNat) w4 w5 := Mv.ofZ f5 (fun k _ e => by rw [e]; exact hm3.2)
    have H5 := H4.mv m5 (fun i hi e => by omega)
    have h15 := h14.keep f5 nq
    refine StN_blk h15 rfl (Nat.le_of_ble_eq_true rfl) (fun w6 h6 f6 _ => ?_)
    have h6 : Blk w6 q t_mutate_Result (resL ans0 false true false (.slice none 0 0)) := h6
    have m6 : Mv z1 z1 (· = 9999) w5 w6 := Mv.ofZ f6 (fun k _ e => by rw [e]; exact zq)
    have H6 := H5.mv m6 (fun i hi e => by omega)
    refine LdN_blk (vs := resL ans0 false true false (.slice none 0 0)) h6 rfl rfl ?_
    exact ⟨true, pos, s', z1, hP, H6, ((M3.trans m4 (fun _ e => e) (fun _ e => .inr (.inr e))).trans m5 (fun _ e => e) (fun _ e => .inr (.inr e))).new f6 (fun k e => by have e : k = q := e; omega), rfl, h5.keep f6 nq.symm⟩
end Go.Proofs.Ythmkimnpdnmahaa
