/- Layer 15 (mutate): an allocation's second step, of what isn't big. -/
import Derived.Test.YthmkimnpdnmahaaAlloc
namespace Go.Proofs.Ythmkimnpdnmahaa
open Go.Vc

/-- The arena behind Make. -/
def made (ws : List Int) (pos size ptrs : Int) : List Int := (zeroed ws pos.toNat size.toNat).set pos.toNat (headW size ptrs 0)
theorem alloc_placed {c : Cfg} {p : HP} {hb sh mb : Nat} {z : Nat → Nat} {s : HS} {t : Int} {m : Mu} {l : List Int} (w : World) (h : HeapAt w z c hb p s) (hm : Blk w mb t_mutate_Mutator (mutL hb sh t m)) (h0 : 0 ≤ t) (ht : t < (p.bs.length : Int))
    (hz : z mb = 500 + t.toNat) (hl : s.refs[t.toNat]? = some l) (hph : m.phase = 5) (ha : 0 ≤ m.a) (hb0 : 0 ≤ m.b) (hn2 : 1 + m.a + m.b ≤ P c / 2) (hp0 : 0 ≤ m.pos) (hp1 : m.pos + (1 + m.a + m.b) ≤ c.c1 * P c) :
    CallC Pr f_mutate_Mutator_alloc [ptr mb] w (fun r w' => ∃ e l' z', ((e = 0 ∧ (l.length : Int) < c.c4 ∧ l' = l ++ [m.pos + 1]) ∨ (e = 15 ∧ (l.length : Int) = c.c4 ∧ l' = l)) ∧
      HeapAt w' z' c hb p { s with acc := IntKind.i64.wrap (s.acc + 1), ws := made s.ws m.pos (1 + m.a + m.b) m.a, refs := s.refs.set t.toNat l' } ∧ Mv z z' (fun i => i = 2 ∨ i = 100 + t.toNat ∨ i = 500 + t.toNat) w w' ∧
      r = .agg (resL (ansL t m.done e 0 false) true false false (.slice none 0 0)).toArray ∧ Blk w' mb t_mutate_Mutator (mutL hb sh t ⟨IntKind.i64.wrap (m.done + 1), 0, m.k, m.a, m.b, m.c, m.v, m.pos⟩)) := by
  have hp := P_le h.ok
  have c3 := h.c3
  have hbsl := h.bsl
  obtain ⟨ra, rc, hr, hT⟩ := h.cells
  refine call_sound T_ok fun_mutate_Mutator_alloc rfl (by kernel_rfl) rfl (Kp ?_)
  refine NewC_blk (fun q w1 hq h1 f1 s1 => ?_)
  have h1 : Blk w1 q t_mutate_Result res0 := h1
  have m1 : Mv z (zput z q 9999) (fun _ => False) w w1 := (Mv.of f1).put (by omega)
  obtain ⟨z1, zq, m1⟩ : ∃ z1 : Nat → Nat, z1 q = 9999 ∧ Mv z z1 (fun _ => False) w w1 := ⟨_, zput_self, m1⟩
  have hmz1 := hm.mv hz m1 id
  refine LdC_blk hmz1.1 rfl ?_
  refine Br_nf hph ?_
  refine AnyC_lex T_ok mixed (by kernel_rfl) (by kernel_rfl) (Kp ?_)
  refine LdS_blk hmz1.1 rfl ?_
  refine LdS_blk hmz1.1 rfl ?_
  have f1d := Fr.drew w1
  have H2 := (h.mv m1 (fun _ _ => id)).mv (Mv.of (S := fun _ => False) f1d) (fun _ _ => id)
  have hm2 := hmz1.1.keep f1d id
  have hT2 := (hT.keep f1 id).keep f1d id
  have h12 := h1.keep f1d id
  refine LdC_blk hm2 rfl ?_
  refine Br_nf hph ?_
  have ew : IntKind.i64.wrap (IntKind.i64.wrap (1 + m.a) + m.b) = 1 + m.a + m.b := by
    rw [wrap_i64 (n := 1 + m.a) (by omega) (by omega), wrap_i64 (by omega) (by omega)]
  obtain ⟨ar, hA, za, zr⟩ := H2.arena
  have hwl := h.wsl
  refine AnyC_plan T_ok mixed (planO [0,1,2,3,4,5,6,7,8,9,10,11,12,13,14,15,16,1017]) (fun w' => Blk w' hb t_heap_Heap (cfgL c ++ geoC c ++ [ptr p.ab, ptr p.rb, ptr p.ob, ptr p.cb, ptr p.qb, ptr p.sb, ptr p.mb, .slice ra p.bs.length rc, .slice (some ⟨p.bf, 0, none⟩) c.c3.toNat c.c3.toNat]) ∧ Blk w' mb t_mutate_Mutator (mutL hb sh t m)) (by kernel_rfl) (by kernel_rfl) ⟨hT2.keep (Fr.drew _) id, hm2.keep (Fr.drew _) id⟩ (Kp ?_)
  refine LdS_of (fun w' hw => hw.2) rfl ?_
  refine LdS_of (fun w' hw => hw.1) rfl ?_
  refine LdS_of (fun w' hw => hw.2) rfl ?_
  refine LdS_of (fun w' hw => hw.2) rfl ?_
  refine ⟨?_, trivial⟩
  have hMk := Make_spec m.pos (1 + m.a + m.b) m.a w1.drew.drew (hA.keep (Fr.drew _) id id) hp0 (by omega) (by omega) ha (by omega) (by omega)
  rw [← ew] at hMk
  refine CallC_intro hMk (fun v w3 ⟨hv, hA3, f3⟩ => ?_)
  rw [ew] at hA3
  subst hv
  have m3 : Mv z1 z1 (· = 2) w1.drew.drew w3 := Mv.ofZ f3 (fun k _ e => by rcases e with e | e <;> rw [e]; exact za; exact zr)
  have H2d := H2.mv (Mv.of (S := fun _ => False) (Fr.drew w1.drew)) (fun _ _ => id)
  have H3 := H2d.setArena m3 ⟨ar, hA3, za, zr⟩ (by rw [List.length_set, zeroed_len])
  have hm3 : Blk w3 mb t_mutate_Mutator (mutL hb sh t m) := (hm2.keep (Fr.drew _) id).keep m3.fr (by rw [hmz1.2]; omega)
  have hT3 : Blk w3 hb t_heap_Heap (cfgL c ++ geoC c ++ [ptr p.ab, ptr p.rb, ptr p.ob, ptr p.cb, ptr p.qb, ptr p.sb, ptr p.mb, .slice ra p.bs.length rc, .slice (some ⟨p.bf, 0, none⟩) c.c3.toNat c.c3.toNat]) := by
    have := H3.tab; unfold heapL at this; rw [hr] at this; exact this
  have h13 : Blk w3 q t_mutate_Result res0 := (h12.keep (Fr.drew _) id).keep m3.fr (by rw [zq]; decide)
  have M3 : Mv z z1 (fun i => i = 2 ∨ i = 100 + t.toNat ∨ i = 500 + t.toNat) w w3 := ((m1.no f1d).no (Fr.drew _)).trans m3 (fun _ e => e.elim) (fun _ e => .inl e)
  have nq : q ≠ mb := by have := hm.lt; omega
  refine Sd_intro ⟨hT3, hm3⟩ ?_
  refine LdC_blk hm3 rfl ?_
  refine LdN_blk (vs := geoC c) hT3 rfl rfl ?_
  have hBg := Big_spec (c.c1 * P c) (P c) (Q c) c.c1 (c.c1 * P c / Q c) (min 1048576 (c.c1 * P c - P c)) (1 + m.a + m.b) w3
  rw [decide_eq_false (show ¬ 1 + m.a + m.b > P c / 2 by omega), ← ew] at hBg
  refine CallC_intro hBg (fun v w4 ⟨hv, f4⟩ => ?_)
  subst hv
  have f4d := f4.no (Fr.drew w4)
  have H4 := H3.mv (Mv.of (S := fun _ => False) f4d) (fun _ _ => id)
  have hm4 := hm3.keep f4d id
  have h14 := h13.keep f4d id
  refine AnyC_plan T_ok mixed (planO [0,1,3,4,5,6,7,8,1002,1009,1010,1011]) (fun w' => w'.cell? ⟨mb, 10, none⟩ = some (.int .i64 m.pos)) (by kernel_rfl) (by kernel_rfl) (hm4.cell rfl) (Kp ?_)
  refine LdS_intro (fun w' hw => hw) ?_
  refine ⟨?_, trivial⟩
  refine CallC_intro (stack_spec w4.drew H4 hm4 h0 ht) (fun v w5 ⟨⟨b, hv, hbb⟩, f5⟩ => ?_)
  subst hv
  have H5 := H4.mv (Mv.of (S := fun _ => False) f5) (fun _ _ => id)
  have hm5 := hm4.keep f5 id
  have h15 := h14.keep f5 id
  refine Sd_intro (hm5.cell rfl) ?_
  refine ⟨?_, trivial⟩
  obtain ⟨sv, hS, zb, zsv⟩ := H5.stacks _ b l hbb hl
  have eu : IntKind.u64.wrap (IntKind.i64.wrap (m.pos + 1)) = m.pos + 1 := by rw [wrap_i64 (by omega) (by omega), wrap_u64 (by omega) (by omega)]
  have M5 : Mv z z1 (fun i => i = 2 ∨ i = 100 + t.toNat ∨ i = 500 + t.toNat) w w5 := (M3.no f4d).no f5
  rcases Int.lt_or_le (l.length : Int) c.c4 with hlt | hge
  · have hPu := roots_Push_spec (m.pos + 1) w5 hS hlt
    rw [← eu] at hPu
    refine CallC_intro hPu (fun v w6 ⟨hv, sv', hS6, loc, f6⟩ => ?_)
    rw [eu] at hS6
    subst hv
    have mt : Mv z1 z1 (· = 100 + t.toNat) w5 w6 := Mv.ofZ f6 (fun k _ e => by rcases e with e | e; rw [e]; exact zb; exact zsv k e)
    have Z2 : ∃ z2 : Nat → Nat, Mv z1 z2 (· = 100 + t.toNat) w5 w6 ∧ ∀ k, sv'.ownBlock = some k → z2 k = 100 + t.toNat := by
      rcases loc with e | ⟨k, e, hk⟩
      · exact ⟨z1, mt, fun k hk => zsv k (by rw [← e]; exact hk)⟩
      · exact ⟨zput z1 k (100 + t.toNat), mt.put hk, fun k' hk' => by rw [e] at hk'; injection hk' with hk'; rw [← hk']; exact zput_self⟩
    obtain ⟨z2, m6, zo6⟩ := Z2
    have zq2 : z2 q = 9999 := (m6.zs q h15.lt).trans zq
    have zb2 : z2 b = 100 + t.toNat := (m6.zs b hS.tab.lt).trans zb
    have ZM6 : z2 mb = 500 + t.toNat := (m6.zs mb hm5.lt).trans hmz1.2
    have H6 := H5.setStack hbb m6 ⟨sv', hS6, zb2, zo6⟩
    have hm6 := hm5.keep m6.fr (by rw [hmz1.2]; omega)
    have h16 := h15.keep m6.fr (by rw [zq]; omega)
    have M6 : Mv z z2 (fun i => i = 2 ∨ i = 100 + t.toNat ∨ i = 500 + t.toNat) w w6 := M5.trans m6 (fun _ e => e) (fun _ e => .inr (.inl e))
    have hm6z : z2 mb = 500 + t.toNat := ZM6
    refine Sd_intro (hm6.cell rfl) ?_
    refine ⟨?_, trivial⟩
    refine CallC_intro (answer_spec 0 0 false w6 hm6) (fun v w7 ⟨hv, h7, f7⟩ => ?_)
    subst hv
    have m7 : Mv z2 z2 (· = 500 + t.toNat) w6 w7 := Mv.ofZ f7 (fun k _ e => by rw [e]; exact hm6z)
    have H7 := H6.mv m7 (fun i hi e => by omega)
    have h17 := h16.keep f7 nq
    refine Sd_intro (h7.cell rfl) ?_
    refine ⟨?_, trivial⟩
    refine StN_blk h17 rfl (Nat.le_of_ble_eq_true rfl) (fun w8 h8 f8 _ => ?_)
    have h8 : Blk w8 q t_mutate_Result (resL (ansL t m.done 0 0 false) true false false (.slice none 0 0)) := h8
    have m8 : Mv z2 z2 (· = 9999) w7 w8 := Mv.ofZ f8 (fun k _ e => by rw [e]; exact zq2)
    have H8 := H7.mv m8 (fun i hi e => by omega)
    have hm8 := h7.keep f8 nq.symm
    refine Sd_intro (hm8.cell rfl) ?_
    refine LdN_blk (vs := resL (ansL t m.done 0 0 false) true false false (.slice none 0 0)) h8 rfl rfl ?_
    exact ⟨0, l ++ [m.pos + 1], z2, .inl ⟨rfl, hlt, rfl⟩, H8, ((M6.trans m7 (fun _ e => e) (fun _ e => .inr (.inr e))).new f8 (fun k e => by have e : k = q := e; omega)), rfl, hm8⟩
  · have hn0 := hS.n0
    have hPu := roots_Push_full (m.pos + 1) w5 hS (by omega)
    rw [← eu] at hPu
    refine CallC_intro hPu (fun v w6 ⟨hv, f6⟩ => ?_)
    subst hv
    obtain ⟨z2, ez2⟩ : ∃ z2, z2 = z1 := ⟨z1, rfl⟩
    have zq2 : z2 q = 9999 := by rw [ez2]; exact zq
    have ZM6 : z2 mb = 500 + t.toNat := by rw [ez2]; exact hmz1.2
    have H6' := H5.mv (Mv.of (S := fun _ => False) f6) (fun _ _ => id)
    have H6 : HeapAt w6 z2 c hb p { s with acc := IntKind.i64.wrap (s.acc + 1), ws := made s.ws m.pos (1 + m.a + m.b) m.a, refs := s.refs.set t.toNat l } := by
      have e : s.refs.set t.toNat l = s.refs := by
        apply List.ext_getElem?
        intro k
        rw [List.getElem?_set]
        by_cases e : t.toNat = k
        · subst e
          rw [if_pos rfl, hl, if_pos (List.getElem?_eq_some_iff.1 hl).1]
        · rw [if_neg e]
      rw [e, ez2]; exact H6'
    have hm6 := hm5.keep f6 id
    have h16 := h15.keep f6 id
    have M6 : Mv z z2 (fun i => i = 2 ∨ i = 100 + t.toNat ∨ i = 500 + t.toNat) w w6 := by rw [ez2]; exact M5.no f6
    have hm6z : z2 mb = 500 + t.toNat := ZM6
    refine Sd_intro (hm6.cell rfl) ?_
    refine ⟨?_, trivial⟩
    refine CallC_intro (answer_spec 15 0 false w6 hm6) (fun v w7 ⟨hv, h7, f7⟩ => ?_)
    subst hv
    have m7 : Mv z2 z2 (· = 500 + t.toNat) w6 w7 := Mv.ofZ f7 (fun k _ e => by rw [e]; exact hm6z)
    have H7 := H6.mv m7 (fun i hi e => by omega)
    have h17 := h16.keep f7 nq
    refine Sd_intro (h7.cell rfl) ?_
    refine ⟨?_, trivial⟩
    refine StN_blk h17 rfl (Nat.le_of_ble_eq_true rfl) (fun w8 h8 f8 _ => ?_)
    have h8 : Blk w8 q t_mutate_Result (resL (ansL t m.done 15 0 false) true false false (.slice none 0 0)) := h8
    have m8 : Mv z2 z2 (· = 9999) w7 w8 := Mv.ofZ f8 (fun k _ e => by rw [e]; exact zq2)
    have H8 := H7.mv m8 (fun i hi e => by omega)
    have hm8 := h7.keep f8 nq.symm
    refine Sd_intro (hm8.cell rfl) ?_
    refine LdN_blk (vs := resL (ansL t m.done 15 0 false) true false false (.slice none 0 0)) h8 rfl rfl ?_
    exact ⟨15, l, z2, .inr ⟨rfl, by omega, rfl⟩, H8, ((M6.trans m7 (fun _ e => e) (fun _ e => .inr (.inr e))).new f8 (fun k e => by have e : k = q := e; omega)), rfl, hm8⟩
end Go.Proofs.Ythmkimnpdnmahaa
