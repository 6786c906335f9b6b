/- Layer 13's answer: New. -/
import Derived.Test.YthmkimnpdnmahaaHeap3
namespace Go.Proofs.Ythmkimnpdnmahaa
open Go.Vc

def Q5 (i : Nat) : Prop := i < 500 ∧ (i < 310 ∨ 400 ≤ i)
def graphL (x : Int) (vs : Value) (dr n : Nat) : List Value := [.int .i64 x, .slice none 0 0, vs, .slice (some ⟨dr, 0, none⟩) n n]
set_option maxHeartbeats 1000000 in
theorem ref13_New_spec (n m x : Int) (z : Nat → Nat) (w : World) (hn : 1 ≤ n ∧ n ≤ 64) (hm : 1 ≤ m ∧ m ≤ 64) (hx : 1 ≤ x ∧ x ≤ 1048576) (hz : ∀ k, z k < 300) :
    CallC Pr f_gleanerref13_New [.int .i64 n, .int .i64 m, .int .i64 x] w (fun v w' =>
      ∃ gb p z', v = .tuple #[ptr gb, .int .i64 0] ∧ GraphAt w' z' gb p ⟨x, m, List.replicate n.toNat 0, List.replicate n.toNat [], []⟩ ∧ (∀ k, Q5 (z' k)) ∧ Mv z z' (fun _ => False) w w') := by
  refine call_sound T_ok fun_gleanerref13_New rfl (by kernel_rfl) rfl (Kp ?_)
  refine Br_df (show ¬ n < 1 by omega) ?_
  refine Br_df (show ¬ n > 64 by omega) ?_
  refine Br_df (show ¬ m < 1 by omega) ?_
  refine Br_df (show ¬ m > 64 by omega) ?_
  refine Br_df (show ¬ x < 1 by omega) ?_
  refine Br_df (show ¬ x > 1048576 by omega) ?_
  refine MkC T_ok (z := .int .i64 0) rfl rfl rfl rfl (n := n) (by omega) (by omega) (show (8 : Int) * n ≤ _ by omega) (fun dr w1 hdr h1 f1 s1 => ?_)
  refine NewC_blk (fun gb w2 hgb h2 f2 s2 => ?_)
  have h2 : Blk w2 gb t_gleanerref13_Graph (graphL x (.slice none 0 0) dr n.toNat) := h2
  have h1 := h1.keep f2 id
  have F2 := f1.no f2
  have sz1 := f1.size
  obtain ⟨z2, zl2, y1, y2, zs2⟩ : ∃ z' : Nat → Nat, (∀ k, Q5 (z' k)) ∧ z' gb = 301 ∧ z' dr = 302 ∧ ∀ k, k < w.heap.size → z' k = z k :=
    ⟨zput (zput z gb 301) dr 302, zput_all (Q := Q5) (zput_all (Q := Q5) (fun k => by have := hz k; unfold Q5; omega) (by unfold Q5; omega)) (by unfold Q5; omega), by rw [zput_ne (by omega), zput_self], zput_self, fun k hk => by rw [zput_ne (by omega), zput_ne (by omega)]⟩
  refine LoopC_intro (α := Int) (fun i => [(0, .int .i64 n), (1, .int .i64 m), (8, ptr gb), (9, .int .i64 i)])
    (fun q i w' => ∃ (z' : Nat → Nat) (vr : Value) (bs : List Nat), (bs.length : Int) = i ∧ (Blk w' gb t_gleanerref13_Graph (graphL x vr dr n.toNat) ∧ z' gb = 301) ∧ (Blk w' dr t_int (List.replicate n.toNat (.int .i64 0)) ∧ z' dr = 302) ∧
      (w'.ownsRow 0 t_p_gleanerref12_Stack 1 vr bs.length (bs.map ptr) ∧ ∀ k, vr.ownBlock = some k → z' k = 303) ∧ (∀ (t b : Nat), bs[t]? = some b → RootsIn w' z' (400 + t) b m []) ∧
      Fr No w w' ∧ (∀ k, Q5 (z' k)) ∧ (∀ k, k < w.heap.size → z' k = z k) ∧ 0 ≤ i ∧ i ≤ n ∧ q = (n - i).toNat)
    (n - 0 : Int).toNat 0 ⟨rfl, rfl, rfl, rfl, trivial⟩ ⟨z2, .slice none 0 0, [], rfl, ⟨h2, y1⟩, ⟨h1, y2⟩, ⟨World.ownsRow_nil _ _ _ _, fun k hk => (by cases hk)⟩, fun t b h => (by cases h), F2, zl2, zs2, Int.le_refl _, (show (0 : Int) ≤ n by omega), rfl⟩ (fun q i w7 hJ => Kp ?_)
  obtain ⟨z7, vr, bs, hbs, ⟨T7, zh7⟩, ⟨B7, zb7⟩, ⟨O7, zo7⟩, S7, F7, zl7, z07, i0, i1, hq⟩ := hJ
  have i0 : 0 ≤ i := i0
  have i1 : i ≤ n := i1
  refine Br_dec (fun g => ?_) (fun g => ?_)
  · have g : i < n := g
    refine CallC_intro (ref12_New_spec m w7 hm.1 hm.2) (fun v w8 ⟨b, hv, hS, f8, hb8, s8⟩ => ?_)
    subst hv
    have mm8 : Mv z7 (zput z7 b (400 + bs.length)) (fun _ => False) w7 w8 := (Mv.of f8).put (by omega)
    obtain ⟨z8, zl8, m8, y8⟩ : ∃ z' : Nat → Nat, (∀ k, Q5 (z' k)) ∧ Mv z7 z' (fun _ => False) w7 w8 ∧ z' b = 400 + bs.length := ⟨_, zput_all (Q := Q5) zl7 (by unfold Q5; omega), mm8, zput_self⟩
    have St8 : RootsIn w8 z8 (400 + bs.length) b m [] := ⟨_, hS, y8, fun k hk => (by cases hk)⟩
    have T8 := T7.mv zh7 m8 id
    have B8 := B7.mv zb7 m8 id
    have O8 := own_mv O7 zo7 m8 id
    have S8 : ∀ (t q : Nat), bs[t]? = some q → RootsIn w8 z8 (400 + t) q m [] := fun t q h => (S7 t q h).mv m8 id
    refine LdC_blk T8.1 rfl ?_
    refine NewC_blk (fun p9 w9 hp9 h9 f9 _ => ?_)
    have m9 : Mv z8 z8 (fun _ => False) w8 w9 := Mv.of f9
    refine ApL T_ok (e := t_p_gleanerref12_Stack) rfl rfl rfl (by decide) (own_keepV O8.1 f9 (fun _ _ => id)) (Nat.zero_le _) h9 (news := [ptr b]) rfl rfl rfl (by omega) (show (bs.length + 1) * 8 ≤ 140737488355328 by omega) (fun v' w10 o10 f10 l10 => ?_)
    have m10 : Mv z8 z8 (· = 303) w9 w10 := Mv.ofZ f10 (fun k hk e => O8.2 k e)
    have m810 : Mv z8 z8 (· = 303) w8 w10 := m9.trans m10 (fun _ e => e.elim) (fun _ e => e)
    refine own_slice o10 |>.elim fun a10 ⟨c10, e10⟩ => ?_
    subst e10
    have T10 := T8.1.mv T8.2 m810 (by decide)
    refine StC_blk T10.1 rfl rfl (fun w11 h11 f11 _ => ?_)
    have h11 : Blk w11 gb t_gleanerref13_Graph (graphL x (.slice a10 (bs.length + 1) c10) dr n.toNat) := h11
    have m11 : Mv z8 z8 (· = 301) w10 w11 := Mv.ofZ f11 (fun k _ e => by rw [e]; exact T8.2)
    have lo : ∀ k, (Value.slice a10 (bs.length + 1) c10).ownBlock = some k → z8 k = 303 ∨ w9.heap.size ≤ k := fun k hk => by
      rcases l10 with e | e
      · exact .inl (O8.2 k (by rw [← e]; exact hk))
      · rw [hk] at e; injection e with e; exact .inr (by omega)
    have Z11 : ∃ z' : Nat → Nat, (∀ k, Q5 (z' k)) ∧ Mv z8 z' (fun i => i = 303 ∨ i = 301) w8 w11 ∧ ∀ k, (Value.slice a10 (bs.length + 1) c10).ownBlock = some k → z' k = 303 := by
      have mt : Mv z8 z8 (fun i => i = 303 ∨ i = 301) w8 w11 := m810.trans m11 (fun _ e => .inl e) (fun _ e => .inr e)
      rcases hob : (Value.slice a10 (bs.length + 1) c10).ownBlock with _ | k
      · exact ⟨z8, zl8, mt, fun k hk => (by cases hk)⟩
      · rcases lo k hob with e | e
        · exact ⟨z8, zl8, mt, fun k' hk => by injection hk with hk; rw [← hk]; exact e⟩
        · exact ⟨zput z8 k 303, zput_all (Q := Q5) zl8 (by unfold Q5; omega), mt.put (Nat.le_trans f9.size e), fun k' hk => by injection hk with hk; rw [← hk]; exact zput_self⟩
    obtain ⟨z11, zl11, M11, zo11⟩ := Z11
    have T11 : Blk w11 gb t_gleanerref13_Graph (graphL x (.slice a10 (bs.length + 1) c10) dr n.toNat) ∧ z11 gb = 301 := ⟨h11, (M11.zs gb T8.1.lt).trans T8.2⟩
    have B11 := B8.1.mv B8.2 M11 (by decide)
    have F11 : Fr No w w11 := by
      refine (F7.no f8).trans M11.fr (fun _ _ e => e) (fun k hk e => ?_)
      have e : z8 k = 303 ∨ z8 k = 301 := e
      have zz : z8 k = z7 k := m8.zs k (Nat.lt_of_lt_of_le hk F7.size)
      rw [zz, z07 k hk] at e
      have := hz k
      omega
    refine ⟨(n - (i + 1)).toNat, _, by omega, ?_, i + 1, rfl, z11, .slice a10 (bs.length + 1) c10, bs ++ [b], ?_, T11, B11, ⟨?_, zo11⟩, ?_, F11, zl11, ?_, by omega, by omega, rfl⟩
    · exact ⟨rfl, rfl, rfl, look_int rfl (wrap_i64 (by omega) (by omega)), trivial⟩
    · rw [List.length_append]; show ((bs.length + 1 : Nat) : Int) = i + 1; omega
    · rw [List.length_append, List.map_append]
      exact own_keepV o10 f11 (fun k hk e => by
        have e : k = gb := e
        subst e
        rcases lo k hk with e | e
        · rw [T8.2] at e; cases e
        · have := T8.1.lt; have := f9.size; omega)
    · intro t q h
      rcases Nat.lt_or_ge t bs.length with ht | ht
      · rw [List.getElem?_append_left ht] at h
        exact (S8 t q h).mv M11 (fun e => by omega)
      · rw [List.getElem?_append_right ht] at h
        have : t - bs.length = 0 := by
          rcases Nat.eq_zero_or_pos (t - bs.length) with e | e
          · exact e
          · rw [List.getElem?_eq_none (by simp; omega)] at h; cases h
        rw [this] at h
        injection h with h
        subst h
        rw [show t = bs.length by omega]
        exact St8.mv M11 (fun e => by omega)
    · intro k hk
      have : k < w7.heap.size := Nat.lt_of_lt_of_le hk F7.size
      rw [M11.zs k (Nat.lt_of_lt_of_le this f8.size), m8.zs k this]; exact z07 k hk
  · have g : ¬ i < n := g
    have ei : (bs.length : Int) = n := by omega
    have en : bs.length = n.toNat := by omega
    refine ⟨gb, ⟨dr, .slice none 0 0, vr, bs⟩, z7, rfl, ⟨?_, zh7, ?_, zb7, O7, zo7, ⟨?_, ?_⟩, ?_, ?_⟩, zl7, ⟨F7.weak (fun _ _ e => e.elim), z07⟩⟩
    · show Blk _ _ _ [_, _, _, .slice _ (List.replicate n.toNat (0 : Int)).length (List.replicate n.toNat (0 : Int)).length]
      rw [List.length_replicate]; exact T7
    · show Blk _ _ _ (ints (List.replicate n.toNat 0))
      have : ints (List.replicate n.toNat 0) = List.replicate n.toNat (.int .i64 0) := by simp [ints]
      rw [this]; exact B7
    · show (List.replicate n.toNat ([] : List Int)).length = _; rw [List.length_replicate, en]
    · show (List.replicate n.toNat (0 : Int)).length = _; rw [List.length_replicate, en]
    · intro t b l hb hl
      have := (List.mem_replicate.1 (List.mem_of_getElem? hl)).2
      subst this
      exact S7 t b hb
    · exact ⟨[], rfl, World.ownsRow_nil _ _ _ _, fun k hk => (by cases hk), fun j x o h => (by cases h)⟩
end Go.Proofs.Ythmkimnpdnmahaa
