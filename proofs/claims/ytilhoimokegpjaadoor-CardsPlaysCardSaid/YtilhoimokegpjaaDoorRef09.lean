/- The document's table of cards (gleanerref09). -/
import Derived.Test.YtilhoimokegpjaaDoorBitsE
import Derived.Test.YtilhoimokegpjaaDoorSame01
namespace Go.Proofs.YtilhoimokegpjaaDoor
open Go.Vc

/-- The document's set, at b, its bools at r. -/
structure IsRef9 (w : World) (b r : Nat) (N : Nat) (S : Nat → Bool) : Prop where
  tab : Blk w b t_gleanerref09_Table [.slice (some ⟨r, 0, none⟩) N N]
  row : Blk w r t_bool (bools S N)
  n1 : N ≤ 4194304
section
variable {w w' : World} {b r : Nat} {N : Nat} {S S' : Nat → Bool}
theorem IsRef9.keep {F : Nat → Prop} (h : IsRef9 w b r N S) (f : Fr F w w') (hb : ¬ F b) (hr : ¬ F r) : IsRef9 w' b r N S := ⟨h.tab.keep f hb, h.row.keep f hr, h.n1⟩
theorem IsRef9.ne (h : IsRef9 w b r N S) : b ≠ r := by
  rintro rfl
  have := (h.tab.inj h.row).2
  cases this
theorem IsRef9.of_eq (h : IsRef9 w b r N S) (e : ∀ j, j < N → S j = S' j) : IsRef9 w b r N S' := ⟨h.tab, h.row.of_eq (bools_congr e), h.n1⟩
end
theorem ref9_New_bad (a0 a1 a2 a3 a4 a5 : Int) (w : World) (h : a4 < 0 ∨ 4194304 < a4) : CallC Pr f_gleanerref09_New [.agg #[.int .i64 a0, .int .i64 a1, .int .i64 a2, .int .i64 a3, .int .i64 a4, .int .i64 a5]] w (fun v w' => v = .tuple #[.pointer none, .int .i64 20] ∧ Fr No w w') := by
  refine call_sound T_ok fun_gleanerref09_New rfl (by kernel_rfl) rfl (Kp ?_)
  refine NewC_blk (fun p w1 hp h1 f1 _ => ?_)
  refine LdC_blk h1 rfl ?_
  refine Br_dec (fun h0 => ?_) (fun h0 => ?_)
  · exact ⟨rfl, f1⟩
  · have h0 : ¬ a4 < 0 := h0
    refine LdC_blk h1 rfl ?_
    refine Br_dt (show a4 > 4194304 by omega) ?_
    exact ⟨rfl, f1⟩
theorem ref9_New_spec (a0 a1 a2 a3 a4 a5 : Int) (w : World) (h0 : 0 ≤ a4) (h1 : a4 ≤ 4194304) : CallC Pr f_gleanerref09_New [.agg #[.int .i64 a0, .int .i64 a1, .int .i64 a2, .int .i64 a3, .int .i64 a4, .int .i64 a5]] w (fun v w' => ∃ b r, v = .tuple #[.pointer (some ⟨b, 0, none⟩), .int .i64 0] ∧ IsRef9 w' b r a4.toNat (fun _ => false) ∧ Fr No w w' ∧ w.heap.size ≤ b ∧ w.heap.size ≤ r) := by
  refine call_sound T_ok fun_gleanerref09_New rfl (by kernel_rfl) rfl (Kp ?_)
  refine NewC_blk (fun p w1 hp hb1 f1 _ => ?_)
  refine LdC_blk hb1 rfl ?_
  refine Br_df (show ¬ a4 < 0 by omega) ?_
  refine LdC_blk hb1 rfl ?_
  refine Br_df (show ¬ a4 > 4194304 by omega) ?_
  refine LdC_blk hb1 rfl ?_
  refine MkC T_ok (z := .bool false) rfl rfl rfl rfl (n := a4) (by omega) (by omega) (show (1 : Int) * a4 ≤ _ by omega) (fun r w2 hr h2 f2 s2 => ?_)
  refine NewC_blk (fun b w3 hb h3 f3 s3 => ?_)
  have s1' := f1.size
  have s2' := f2.size
  exact ⟨b, r, rfl, ⟨h3, (h2.keep f3 id).of_eq bools_false.symm, by omega⟩, (f1.no f2).no f3, by omega, by omega⟩
theorem ref9_set_out {b r : Nat} {N : Nat} {S : Nat → Bool} (i : Int) (on : Bool) (w : World) (h : IsRef9 w b r N S) (hi : ¬ (0 ≤ i ∧ i < N)) :
    CallC Pr f_gleanerref09_Table_Set [.pointer (some ⟨b, 0, none⟩), .int .i64 i, .bool on] w (fun v w' => v = .tuple #[.bool false, .int .i64 2] ∧ Fr No w w') := by
  refine call_sound T_ok fun_gleanerref09_Table_Set rfl (by kernel_rfl) rfl (Kp ?_)
  refine Br_dec (fun h0 => ?_) (fun h0 => ?_)
  · exact ⟨rfl, Fr.refl _ _⟩
  · have h0 : ¬ i < 0 := h0
    refine LdC_blk h.tab rfl ?_
    refine Br_dt (show i ≥ (N : Int) by omega) ?_
    exact ⟨rfl, Fr.refl _ _⟩
theorem ref9_set_in {b r : Nat} {N : Nat} {S : Nat → Bool} (i : Int) (on : Bool) (w : World) (h : IsRef9 w b r N S) (h0 : 0 ≤ i) (h1 : i < N) :
    CallC Pr f_gleanerref09_Table_Set [.pointer (some ⟨b, 0, none⟩), .int .i64 i, .bool on] w (fun v w' => v = .tuple #[.bool (!(S i.toNat == on)), .int .i64 0] ∧ IsRef9 w' b r N (upd S i.toNat on) ∧ Fr (· = r) w w') := by
  refine call_sound T_ok fun_gleanerref09_Table_Set rfl (by kernel_rfl) rfl (Kp ?_)
  refine Br_df (show ¬ i < 0 by omega) ?_
  refine LdC_blk h.tab rfl ?_
  refine Br_df (show ¬ i ≥ (N : Int) by omega) ?_
  refine LdC_blk h.tab rfl ?_
  refine Sd_intro (show 0 ≤ i ∧ i < (N : Int) by omega) ?_
  refine LdC_idx (v := .bool (S i.toNat)) h.row (by rw [Nat.zero_add, Nat.mul_one]; exact bools_get (by omega)) ?_
  refine LdC_blk h.tab rfl ?_
  refine Sd_intro (show 0 ≤ i ∧ i < (N : Int) by omega) ?_
  refine StC_idx h.row rfl (u := .bool (S i.toNat)) (by rw [Nat.zero_add, Nat.mul_one]; exact bools_get (by omega)) (fun w2 h2 f2 _ => ?_)
  rw [Nat.zero_add, Nat.mul_one, bools_set] at h2
  exact ⟨rfl, ⟨h.tab.keep f2 h.ne, h2, h.n1⟩, f2⟩
theorem ref9_List_spec {b r : Nat} {N : Nat} {S : Nat → Bool} (w : World) (h : IsRef9 w b r N S) :
    CallC Pr f_gleanerref09_Table_List [.pointer (some ⟨b, 0, none⟩)] w (fun v w' => Own w' w.heap.size v (elems S N) ∧ Fr No w w') := by
  have hn := h.n1
  have hb := h.tab.lt
  have hr := h.row.lt
  refine call_sound T_ok fun_gleanerref09_Table_List rfl (by kernel_rfl) rfl (Kp ?_)
  refine LoopC_intro (α := Value × Int) (fun q => [(0, .pointer (some ⟨b, 0, none⟩)), (3, q.1), (4, .int .i64 q.2)])
    (fun m q w2 => IsRef9 w2 b r N S ∧ Fr No w w2 ∧ Own w2 w.heap.size q.1 (elems S q.2.toNat) ∧ 0 ≤ q.2 ∧ q.2 ≤ N ∧ m = (N - q.2).toNat)
    (N - 0 : Int).toNat (.slice none 0 0, 0) ⟨rfl, rfl, rfl, trivial⟩
    ⟨h, Fr.refl _ _, Own.nil _ _, Int.le_refl _, (show (0 : Int) ≤ N by omega), rfl⟩ (fun m q w2 hJ => Kp ?_)
  obtain ⟨v, k⟩ := q
  obtain ⟨h2, f2, hO, k0, k1, hm⟩ := hJ
  have hO : Own w2 w.heap.size v (elems S k.toNat) := hO
  have k0 : 0 ≤ k := k0
  have k1 : k ≤ N := k1
  have hm : m = (N - k).toNat := hm
  have hle := elems_le S k.toNat
  have hs : elems S (k + 1).toNat = elems S k.toNat ++ (if S k.toNat = true then [k] else []) := by
    rw [show (k + 1).toNat = k.toNat + 1 by omega]
    simp only [elems]
    rw [show ((k.toNat : Nat) : Int) = k by omega]
  refine LdC_blk h2.tab rfl ?_
  refine Br_dec (fun g => ?_) (fun g => ?_)
  · have g : k < (N : Int) := g
    refine LdC_blk h2.tab rfl ?_
    refine Sd_intro (show 0 ≤ k ∧ k < (N : Int) by omega) ?_
    refine LdC_idx (v := .bool (S k.toNat)) h2.row (by rw [Nat.zero_add, Nat.mul_one]; exact bools_get (by omega)) ?_
    refine Br_intro (fun g1 => ?_) (fun g1 => ?_)
    · have g1 : S k.toNat = true := g1
      rw [if_pos g1] at hs
      refine NewC_blk (fun p5 w5 hp5 h5 f5 _ => ?_)
      refine ApC T_ok (e := t_int) rfl rfl rfl (by decide) (hO.keep f5 (fun _ _ => id)) (f2.no f5).size h5 (news := [.int .i64 k]) rfl rfl rfl (by omega) (show _ * 8 ≤ 140737488355328 by omega) (fun v6 w6 o6 f6 => ?_)
      have ge : ∀ j, v.ownBlock = some j → w.heap.size ≤ j := fun j hj => hO.ge j hj
      have f26 : Fr (fun j => v.ownBlock = some j) w2 w6 := f5.noL f6
      have fw6 : Fr No w w6 := f2.new f26 (fun _ _ e => e) (fun j e => ge j e)
      refine ⟨(N - (k + 1)).toNat, _, by omega, ?_, (v6, k + 1), rfl, h2.keep f26 (fun e => by have := ge _ e; omega) (fun e => by have := ge _ e; omega), fw6, ?_, (show 0 ≤ k + 1 by omega), (show k + 1 ≤ (N : Int) by omega), rfl⟩
      · exact ⟨rfl, rfl, look_int rfl (wrap_i64 (by omega) (by omega)), trivial⟩
      · show Own w6 w.heap.size v6 (elems S (k + 1).toNat)
        rw [hs]
        unfold Own
        rw [List.length_append, ints_append]
        exact o6
    · have g1 : S k.toNat = false := g1
      rw [if_neg (by rw [g1]; decide), List.append_nil] at hs
      refine ⟨(N - (k + 1)).toNat, _, by omega, ?_, (v, k + 1), rfl, h2, f2, hO.of_eq hs.symm, (show 0 ≤ k + 1 by omega), (show k + 1 ≤ (N : Int) by omega), rfl⟩
      exact ⟨rfl, rfl, look_int rfl (wrap_i64 (by omega) (by omega)), trivial⟩
  · have g : ¬ k < (N : Int) := g
    refine ⟨hO.of_eq ?_, f2⟩
    rw [show k.toNat = N by omega]
end Go.Proofs.YtilhoimokegpjaaDoor
