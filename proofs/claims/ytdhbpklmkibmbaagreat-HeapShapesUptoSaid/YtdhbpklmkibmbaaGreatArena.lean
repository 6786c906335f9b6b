/- Layer 3 (arena): contracts. -/
import Derived.Test.YtdhbpklmkibmbaaGreatVcT
import Derived.Test.YtdhbpklmkibmbaaGreatVcI
namespace Go.Proofs.YtdhbpklmkibmbaaGreat
open Go.Vc

def u64i (l : List Int) : List Value := l.map fun (n : Int) => .int .u64 n
theorem u64i_len (l : List Int) : (u64i l).length = l.length := by simp [u64i]
theorem u64i_get? {l : List Int} {k : Nat} {x : Int} (h : l[k]? = some x) : (u64i l)[k]? = some (.int .u64 x) := by simp [u64i, h]
theorem u64i_set (l : List Int) (k : Nat) (v : Int) : (u64i l).set k (.int .u64 v) = u64i (l.set k v) := by simp [u64i, List.map_set]
theorem u64i_rep (n : Nat) : List.replicate n (Value.int .u64 0) = u64i (List.replicate n 0) := by simp [u64i]
/-- An arena at b, its words at r. -/
structure IsArena (w : World) (b r : Nat) (acc : Int) (ws : List Int) : Prop where
  tab : Blk w b t_arena_Arena [.slice (some ⟨r, 0, none⟩) ws.length ws.length, .int .i64 acc]
  row : Blk w r t_uint64 (u64i ws)
  n0 : ws.length ≤ 4194304
  us : ∀ x ∈ ws, 0 ≤ x ∧ x ≤ 18446744073709551615
section
variable {w w' : World} {b r : Nat} {acc : Int} {ws : List Int}
theorem IsArena.keep {F : Nat → Prop} (h : IsArena w b r acc ws) (f : Fr F w w') (hb : ¬ F b) (hr : ¬ F r) : IsArena w' b r acc ws := ⟨h.tab.keep f hb, h.row.keep f hr, h.n0, h.us⟩
theorem IsArena.ne (h : IsArena w b r acc ws) : b ≠ r := by
  rintro rfl
  have := (h.tab.inj h.row).2
  cases this
theorem IsArena.lt (h : IsArena w b r acc ws) : b < w.heap.size ∧ r < w.heap.size := ⟨h.tab.lt, h.row.lt⟩
end
theorem arena_New_spec (n : Int) (w : World) (h0 : 0 ≤ n) (h1 : n ≤ 4194304) : CallC Pr f_arena_New [.int .i64 n] w
    (fun v w' => ∃ b r, v = .tuple #[.pointer (some ⟨b, 0, none⟩), .int .i64 0] ∧ IsArena w' b r 0 (List.replicate n.toNat 0) ∧ Fr No w w' ∧ w.heap.size ≤ b ∧ w.heap.size ≤ r) := by
  refine call_sound T_ok fun_arena_New rfl (by kernel_rfl) rfl (Kp ?_)
  refine Br_df (show ¬ n < 0 by omega) ?_
  refine Br_df (show ¬ n > 4194304 by omega) ?_
  refine MkC T_ok (z := .int .u64 0) rfl rfl rfl rfl (n := n) h0 (by omega) (show (8 : Int) * n ≤ _ by omega) (fun r w2 hr h2 f2 s2 => ?_)
  refine NewC_blk (fun b w3 hb h3 f3 s3 => ?_)
  have s2' := f2.size
  refine ⟨b, r, rfl, ⟨by rw [List.length_replicate]; exact h3, ?_, by rw [List.length_replicate]; omega, fun x hx => by rw [(List.mem_replicate.1 hx).2]; decide⟩, f2.no f3, by omega, by omega⟩
  rw [← u64i_rep]
  exact h2.keep f3 id
theorem arena_New_bad (n : Int) (w : World) (h : n < 0 ∨ 4194304 < n) : CallC Pr f_arena_New [.int .i64 n] w (fun v w' => v = .tuple #[.pointer none, .int .i64 2] ∧ Fr No w w') := by
  refine call_sound T_ok fun_arena_New rfl (by kernel_rfl) rfl (Kp ?_)
  refine Br_dec (fun g => ?_) (fun g => ?_)
  · exact ⟨rfl, Fr.refl _ _⟩
  · have g : ¬ n < 0 := g
    refine Br_dt (show n > 4194304 by omega) ?_
    exact ⟨rfl, Fr.refl _ _⟩
theorem arena_Len_nil (w : World) : CallC Pr f_arena_Arena_Len [.pointer none] w (fun v w' => v = .int .i64 0 ∧ Fr No w w') := by
  refine call_sound T_ok fun_arena_Arena_Len rfl (by kernel_rfl) rfl (Kp ?_)
  exact ⟨rfl, Fr.refl _ _⟩
theorem arena_Len_spec {b r : Nat} {acc : Int} {ws : List Int} (w : World) (h : IsArena w b r acc ws) : CallC Pr f_arena_Arena_Len [.pointer (some ⟨b, 0, none⟩)] w (fun v w' => v = .int .i64 ws.length ∧ Fr No w w') := by
  refine call_sound T_ok fun_arena_Arena_Len rfl (by kernel_rfl) rfl (Kp ?_)
  refine LdC_blk h.tab rfl ?_
  exact ⟨rfl, Fr.refl _ _⟩
theorem word_nil (i : Int) (w : World) : CallC Pr f_arena_Arena_word [.pointer none, .int .i64 i] w (fun v w' => v = .tuple #[.pointer none, .int .i64 1] ∧ Fr No w w') := by
  refine call_sound T_ok fun_arena_Arena_word rfl (by kernel_rfl) rfl (Kp ?_)
  exact ⟨rfl, Fr.refl _ _⟩
theorem wrap_u64_cmp {i n : Int} (hi : -9223372036854775808 ≤ i ∧ i ≤ 9223372036854775807) (hn : 0 ≤ n ∧ n ≤ 4194304) : (IntKind.u64.wrap i ≥ IntKind.u64.wrap n) ↔ ¬ (0 ≤ i ∧ i < n) := by
  rw [wrap_u64 (n := n) (by omega) (by omega)]
  simp only [IntKind.wrap, IntKind.bits, IntKind.signed]
  simp
  omega
theorem word_out {b r : Nat} {acc : Int} {ws : List Int} (i : Int) (w : World) (h : IsArena w b r acc ws) (hb : -9223372036854775808 ≤ i ∧ i ≤ 9223372036854775807) (hi : ¬ (0 ≤ i ∧ i < (ws.length : Int))) :
    CallC Pr f_arena_Arena_word [.pointer (some ⟨b, 0, none⟩), .int .i64 i] w (fun v w' => v = .tuple #[.pointer none, .int .i64 2] ∧ Fr No w w') := by
  have n0 := h.n0
  refine call_sound T_ok fun_arena_Arena_word rfl (by kernel_rfl) rfl (Kp ?_)
  refine LdC_blk h.tab rfl ?_
  refine Br_dt ((wrap_u64_cmp hb ⟨by omega, by omega⟩).2 hi) ?_
  exact ⟨rfl, Fr.refl _ _⟩
theorem word_in {b r : Nat} {acc : Int} {ws : List Int} (i : Int) (w : World) (h : IsArena w b r acc ws) (h0 : 0 ≤ i) (h1 : i < (ws.length : Int)) :
    CallC Pr f_arena_Arena_word [.pointer (some ⟨b, 0, none⟩), .int .i64 i] w (fun v w' => v = .tuple #[.pointer (some ⟨r, i.toNat, none⟩), .int .i64 0] ∧ IsArena w' b r (IntKind.i64.wrap (acc + 1)) ws ∧ Fr (· = b) w w') := by
  have n0 := h.n0
  refine call_sound T_ok fun_arena_Arena_word rfl (by kernel_rfl) rfl (Kp ?_)
  refine LdC_blk h.tab rfl ?_
  refine Br_df (fun e => (wrap_u64_cmp ⟨by omega, by omega⟩ ⟨by omega, by omega⟩).1 e ⟨h0, h1⟩) ?_
  refine LdC_blk h.tab rfl ?_
  refine StC_blk h.tab rfl rfl (fun w1 h1' f1 _ => ?_)
  have h1' : Blk w1 b t_arena_Arena [.slice (some ⟨r, 0, none⟩) ws.length ws.length, .int .i64 (IntKind.i64.wrap (acc + 1))] := h1'
  refine LdC_blk h1' rfl ?_
  refine Sd_intro ⟨h0, h1⟩ ?_
  refine ⟨?_, ⟨h1', h.row.keep f1 (fun e => h.ne e.symm), n0, h.us⟩, f1⟩
  show Value.tuple #[.pointer (some ((Addr.mk r 0 none).add (i.toNat * 1))), _] = _
  rw [add_of, Nat.zero_add, Nat.mul_one]
theorem Load_out {b r : Nat} {acc : Int} {ws : List Int} (i : Int) (w : World) (h : IsArena w b r acc ws) (hb : -9223372036854775808 ≤ i ∧ i ≤ 9223372036854775807) (hi : ¬ (0 ≤ i ∧ i < (ws.length : Int))) :
    CallC Pr f_arena_Arena_Load [.pointer (some ⟨b, 0, none⟩), .int .i64 i] w (fun v w' => v = .tuple #[.int .u64 0, .int .i64 2] ∧ Fr No w w') := by
  refine call_sound T_ok fun_arena_Arena_Load rfl (by kernel_rfl) rfl (Kp ?_)
  refine CallC_intro (word_out i w h hb hi) (fun v w1 ⟨hv, f1⟩ => ?_)
  subst hv
  exact ⟨rfl, f1⟩
theorem Load_in {b r : Nat} {acc x : Int} {ws : List Int} (i : Int) (w : World) (h : IsArena w b r acc ws) (h0 : 0 ≤ i) (hx : ws[i.toNat]? = some x) :
    CallC Pr f_arena_Arena_Load [.pointer (some ⟨b, 0, none⟩), .int .i64 i] w (fun v w' => v = .tuple #[.int .u64 x, .int .i64 0] ∧ IsArena w' b r (IntKind.i64.wrap (acc + 1)) ws ∧ Fr (· = b) w w') := by
  have hl := (List.getElem?_eq_some_iff.1 hx).1
  refine call_sound T_ok fun_arena_Arena_Load rfl (by kernel_rfl) rfl (Kp ?_)
  refine CallC_intro (word_in i w h h0 (by omega)) (fun v w1 ⟨hv, h1, f1⟩ => ?_)
  subst hv
  refine LdC_blk h1.row (u64i_get? hx) ?_
  exact ⟨rfl, h1, f1⟩
theorem Store_out {b r : Nat} {acc : Int} {ws : List Int} (i x : Int) (w : World) (h : IsArena w b r acc ws) (hb : -9223372036854775808 ≤ i ∧ i ≤ 9223372036854775807) (hi : ¬ (0 ≤ i ∧ i < (ws.length : Int))) :
    CallC Pr f_arena_Arena_Store [.pointer (some ⟨b, 0, none⟩), .int .i64 i, .int .u64 x] w (fun v w' => v = .int .i64 2 ∧ Fr No w w') := by
  refine call_sound T_ok fun_arena_Arena_Store rfl (by kernel_rfl) rfl (Kp ?_)
  refine CallC_intro (word_out i w h hb hi) (fun v w1 ⟨hv, f1⟩ => ?_)
  subst hv
  exact ⟨rfl, f1⟩
theorem Store_in {b r : Nat} {acc : Int} {ws : List Int} (i x : Int) (w : World) (h : IsArena w b r acc ws) (h0 : 0 ≤ i) (hl : i < (ws.length : Int)) (hx : 0 ≤ x ∧ x ≤ 18446744073709551615) :
    CallC Pr f_arena_Arena_Store [.pointer (some ⟨b, 0, none⟩), .int .i64 i, .int .u64 x] w (fun v w' => v = .int .i64 0 ∧ IsArena w' b r (IntKind.i64.wrap (acc + 1)) (ws.set i.toNat x) ∧ Fr (fun k => k = b ∨ k = r) w w') := by
  refine call_sound T_ok fun_arena_Arena_Store rfl (by kernel_rfl) rfl (Kp ?_)
  refine CallC_intro (word_in i w h h0 (by omega)) (fun v w1 ⟨hv, h1, f1⟩ => ?_)
  subst hv
  have hg := List.getElem?_eq_getElem (show i.toNat < ws.length by omega)
  refine StC_blk h1.row rfl (u64i_get? hg) (fun w2 h2 f2 _ => ?_)
  rw [u64i_set] at h2
  refine ⟨rfl, ⟨by rw [List.length_set]; exact h1.tab.keep f2 h1.ne, h2, by rw [List.length_set]; exact h1.n0, fun y hy => by
    rcases List.mem_or_eq_of_mem_set hy with e | e
    · exact h1.us y e
    · rw [e]; exact hx⟩, f1.trans f2 (fun _ _ e => .inl e) (fun _ _ e => .inr e)⟩
theorem row_in {b r : Nat} {acc : Int} {ws : List Int} (i n : Int) (w : World) (h : IsArena w b r acc ws) (h0 : 0 ≤ i) (h1 : 1 ≤ n) (hl : i + n ≤ (ws.length : Int)) :
    CallC Pr f_arena_Arena_row [.pointer (some ⟨b, 0, none⟩), .int .i64 i, .int .i64 n] w (fun v w' => (∃ c, v = .tuple #[.slice (some ⟨r, i.toNat, none⟩) n.toNat c, .int .i64 0]) ∧ Fr No w w') := by
  have n0 := h.n0
  refine call_sound T_ok fun_arena_Arena_row rfl (by kernel_rfl) rfl (Kp ?_)
  refine Br_df (show ¬ i < 0 by omega) ?_
  refine Br_df (show ¬ n < 0 by omega) ?_
  refine LdC_blk h.tab rfl ?_
  refine Br_df (show ¬ i > (ws.length : Int) by omega) ?_
  refine LdC_blk h.tab rfl ?_
  refine Br_df (show ¬ n > IntKind.i64.wrap ((ws.length : Int) - i) by rw [wrap_i64 (by omega) (by omega)]; omega) ?_
  refine LdC_blk h.tab rfl ?_
  have e : IntKind.i64.wrap (i + n) = i + n := wrap_i64 (by omega) (by omega)
  refine Sd_intro (by rw [e]; omega) ?_
  have hv : Value.tuple #[.slice (cutA (some ⟨r, 0, none⟩) ws.length i.toNat 1) ((IntKind.i64.wrap (i + n)).toNat - i.toNat) (ws.length - i.toNat), .int .i64 0] = .tuple #[.slice (some ⟨r, i.toNat, none⟩) n.toNat (ws.length - i.toNat), .int .i64 0] := by
    rw [e, show (i + n).toNat - i.toNat = n.toNat by omega]
    unfold cutA
    rw [if_neg (by omega), Option.map_some, add_of, Nat.zero_add, Nat.mul_one]
  exact ⟨⟨_, hv⟩, Fr.refl _ _⟩
theorem row_out {b r : Nat} {acc : Int} {ws : List Int} (i n : Int) (w : World) (h : IsArena w b r acc ws) (hi : 0 ≤ i ∧ i ≤ 4194304) (hn : 0 ≤ n) (hl : (ws.length : Int) < i + n) :
    CallC Pr f_arena_Arena_row [.pointer (some ⟨b, 0, none⟩), .int .i64 i, .int .i64 n] w (fun v w' => v = .tuple #[.slice none 0 0, .int .i64 2] ∧ Fr No w w') := by
  have n0 := h.n0
  refine call_sound T_ok fun_arena_Arena_row rfl (by kernel_rfl) rfl (Kp ?_)
  refine Br_df (show ¬ i < 0 by omega) ?_
  refine Br_df (show ¬ n < 0 by omega) ?_
  refine LdC_blk h.tab rfl ?_
  refine Br_dec (fun g => ?_) (fun g => ?_)
  · exact ⟨rfl, Fr.refl _ _⟩
  · have g : ¬ i > (ws.length : Int) := g
    refine LdC_blk h.tab rfl ?_
    refine Br_dt (show n > IntKind.i64.wrap ((ws.length : Int) - i) by rw [wrap_i64 (by omega) (by omega)]; omega) ?_
    exact ⟨rfl, Fr.refl _ _⟩
/-- A row of zeros is laid over some words. -/
def zeroed (ws : List Int) (i n : Nat) : List Int := (List.range ws.length).map fun k => if i ≤ k ∧ k < i + n then 0 else ws[k]?.getD 0
theorem zeroed_len (ws : List Int) (i n : Nat) : (zeroed ws i n).length = ws.length := by simp [zeroed]
theorem zeroed_get (ws : List Int) (i n k : Nat) (hk : k < ws.length) : (zeroed ws i n)[k]? = if i ≤ k ∧ k < i + n then some 0 else ws[k]? := by
  unfold zeroed
  rw [List.getElem?_map, List.getElem?_range hk]
  simp only [Option.map_some]
  split
  · rfl
  · rw [List.getElem?_eq_getElem hk]; rfl
theorem over_zero {ws : List Int} {i n : Nat} (h : i + n ≤ ws.length) : over (u64i ws) i (List.replicate n (.int .u64 0)) = u64i (zeroed ws i n) := by
  apply List.ext_getElem?
  intro k
  rw [over_get _ _ _ _ (by rw [u64i_len, List.length_replicate]; exact h)]
  rw [List.length_replicate]
  rcases Nat.lt_or_ge k ws.length with hk | hk
  · have hz := zeroed_get ws i n k hk
    split
    · rename_i g
      rw [if_pos g] at hz
      rw [u64i_get? hz, List.getElem?_replicate, if_pos (by omega)]
    · rename_i g
      rw [if_neg g, List.getElem?_eq_getElem hk] at hz
      rw [u64i_get? hz, u64i_get? (List.getElem?_eq_getElem hk)]
  · rw [if_neg (by omega), List.getElem?_eq_none (by rw [u64i_len]; exact hk), List.getElem?_eq_none (by rw [u64i_len, zeroed_len]; exact hk)]
theorem zeroed_us {ws : List Int} {i n : Nat} (h : ∀ x ∈ ws, 0 ≤ x ∧ x ≤ 18446744073709551615) : ∀ x ∈ zeroed ws i n, 0 ≤ x ∧ x ≤ 18446744073709551615 := by
  intro x hx
  obtain ⟨k, hk, e⟩ := List.mem_map.1 hx
  have hk := List.mem_range.1 hk
  rw [List.getElem?_eq_getElem hk] at e
  split at e
  · rw [← e]; decide
  · rw [← e]; exact h _ (List.getElem_mem hk)
theorem Zero_in {b r : Nat} {acc : Int} {ws : List Int} (i n : Int) (w : World) (h : IsArena w b r acc ws) (h0 : 0 ≤ i) (h1 : 1 ≤ n) (hl : i + n ≤ (ws.length : Int)) :
    CallC Pr f_arena_Arena_Zero [.pointer (some ⟨b, 0, none⟩), .int .i64 i, .int .i64 n] w (fun v w' => v = .int .i64 0 ∧ IsArena w' b r acc (zeroed ws i.toNat n.toNat) ∧ Fr (· = r) w w') := by
  refine call_sound T_ok fun_arena_Arena_Zero rfl (by kernel_rfl) rfl (Kp ?_)
  refine CallC_intro (row_in i n w h h0 h1 hl) (fun v w1 ⟨⟨c, hv⟩, f1⟩ => ?_)
  subst hv
  have h1 := h.keep f1 id id
  refine ClrC T_ok (z := .int .u64 0) rfl rfl rfl rfl h1.row (by rw [u64i_len]; omega) (fun w2 h2 f2 _ => ?_)
  rw [over_zero (by omega)] at h2
  exact ⟨rfl, ⟨by rw [zeroed_len]; exact h1.tab.keep f2 h1.ne, h2, by rw [zeroed_len]; exact h1.n0, zeroed_us h1.us⟩, f1.noL f2⟩
theorem Zero_out {b r : Nat} {acc : Int} {ws : List Int} (i n : Int) (w : World) (h : IsArena w b r acc ws) (hi : 0 ≤ i ∧ i ≤ 4194304) (hn : 0 ≤ n) (hl : (ws.length : Int) < i + n) :
    CallC Pr f_arena_Arena_Zero [.pointer (some ⟨b, 0, none⟩), .int .i64 i, .int .i64 n] w (fun v w' => v = .int .i64 2 ∧ Fr No w w') := by
  refine call_sound T_ok fun_arena_Arena_Zero rfl (by kernel_rfl) rfl (Kp ?_)
  refine CallC_intro (row_out i n w h hi hn hl) (fun v w1 ⟨hv, f1⟩ => ?_)
  subst hv
  refine ClrC_none T_ok (e := t_uint64) rfl ?_
  exact ⟨rfl, f1⟩
end Go.Proofs.YtdhbpklmkibmbaaGreat
/- Layer 12 (roots): contracts. -/
namespace Go.Proofs.YtdhbpklmkibmbaaGreat
open Go.Vc

/-- A stack at b, its row v. -/
structure IsStack (w : World) (b : Nat) (v : Value) (bound : Int) (l : List Int) : Prop where
  tab : Blk w b t_roots_Stack [.int .i64 bound, v]
  own : w.ownsRow 0 t_api_Ref 1 v l.length (u64i l)
  b0 : 1 ≤ bound ∧ bound ≤ 64
  n0 : (l.length : Int) ≤ bound
  us : ∀ x ∈ l, 0 ≤ x ∧ x ≤ 18446744073709551615
section
variable {w w' : World} {b : Nat} {v : Value} {bound : Int} {l : List Int}
theorem IsStack.keep {F : Nat → Prop} (h : IsStack w b v bound l) (f : Fr F w w') (hb : ¬ F b) (hv : ∀ k, v.ownBlock = some k → ¬ F k) : IsStack w' b v bound l :=
  ⟨h.tab.keep f hb, own_keepV h.own f hv, h.b0, h.n0, h.us⟩
theorem IsStack.ne (h : IsStack w b v bound l) : v.ownBlock ≠ some b := by
  intro e
  obtain ⟨cur, hb, _⟩ := own_blk h.own b e
  have := (h.tab.inj hb).2
  cases this
theorem IsStack.row (h : IsStack w b v bound l) : ∃ a c, v = .slice a l.length c := own_slice h.own
end
theorem roots_New_spec (n : Int) (w : World) (h0 : 1 ≤ n) (h1 : n ≤ 64) : CallC Pr f_roots_New [.int .i64 n] w
    (fun v w' => ∃ b, v = .tuple #[.pointer (some ⟨b, 0, none⟩), .int .i64 0] ∧ IsStack w' b (.slice none 0 0) n [] ∧ Fr No w w' ∧ b = w.heap.size ∧ w'.heap.size = b + 1) := by
  refine call_sound T_ok fun_roots_New rfl (by kernel_rfl) rfl (Kp ?_)
  refine Br_df (show ¬ n < 1 by omega) ?_
  refine Br_df (show ¬ n > 64 by omega) ?_
  refine NewC_blk (fun b w3 hb h3 f3 s3 => ?_)
  exact ⟨b, rfl, ⟨h3, World.ownsRow_nil _ _ _ _, ⟨h0, h1⟩, (show (0 : Int) ≤ n by omega), fun x hx => by cases hx⟩, f3, hb, s3⟩
theorem roots_Len_spec {b : Nat} {v : Value} {bound : Int} {l : List Int} (w : World) (h : IsStack w b v bound l) : CallC Pr f_roots_Stack_Len [.pointer (some ⟨b, 0, none⟩)] w (fun v w' => v = .int .i64 l.length ∧ Fr No w w') := by
  obtain ⟨a, c, rfl⟩ := h.row
  refine call_sound T_ok fun_roots_Stack_Len rfl (by kernel_rfl) rfl (Kp ?_)
  refine LdC_blk h.tab rfl ?_
  exact ⟨rfl, Fr.refl _ _⟩
theorem roots_Room_spec {b : Nat} {v : Value} {bound : Int} {l : List Int} (w : World) (h : IsStack w b v bound l) : CallC Pr f_roots_Stack_Room [.pointer (some ⟨b, 0, none⟩)] w (fun v w' => v = .int .i64 (bound - l.length) ∧ Fr No w w') := by
  obtain ⟨a, c, rfl⟩ := h.row
  have b0 := h.b0
  have n0 := h.n0
  refine call_sound T_ok fun_roots_Stack_Room rfl (by kernel_rfl) rfl (Kp ?_)
  refine AnyC_lex T_ok mixed (by kernel_rfl) (by kernel_rfl) ?_
  refine LdS_blk h.tab rfl ?_
  refine LdS_blk h.tab rfl ?_
  exact ⟨congrArg (Value.int .i64) (wrap_i64 (by omega) (by omega)), Fr.drew _⟩
theorem roots_Push_full {b : Nat} {v : Value} {bound : Int} {l : List Int} (x : Int) (w : World) (h : IsStack w b v bound l) (hn : (l.length : Int) = bound) :
    CallC Pr f_roots_Stack_Push [.pointer (some ⟨b, 0, none⟩), .int .u64 x] w (fun v w' => v = .int .i64 15 ∧ Fr No w w') := by
  refine call_sound T_ok fun_roots_Stack_Push rfl (by kernel_rfl) rfl (Kp ?_)
  refine CallC_intro (roots_Room_spec w h) (fun v w1 ⟨hv, f1⟩ => ?_)
  subst hv
  refine Br_dt (show bound - (l.length : Int) = 0 by omega) ?_
  exact ⟨rfl, f1⟩
theorem roots_Push_spec {b : Nat} {v : Value} {bound : Int} {l : List Int} (x : Int) (w : World) (h : IsStack w b v bound l) (hn : (l.length : Int) < bound) (hx : 0 ≤ x ∧ x ≤ 18446744073709551615) :
    CallC Pr f_roots_Stack_Push [.pointer (some ⟨b, 0, none⟩), .int .u64 x] w
      (fun u w' => u = .int .i64 0 ∧ ∃ v', IsStack w' b v' bound (l ++ [x]) ∧ (v'.ownBlock = v.ownBlock ∨ ∃ k, v'.ownBlock = some k ∧ w.heap.size ≤ k) ∧ Fr (fun k => k = b ∨ v.ownBlock = some k) w w') := by
  have b0 := h.b0
  refine call_sound T_ok fun_roots_Stack_Push rfl (by kernel_rfl) rfl (Kp ?_)
  refine CallC_intro (roots_Room_spec w h) (fun u w1 ⟨hv, f1⟩ => ?_)
  subst hv
  refine Br_df (show ¬ bound - (l.length : Int) = 0 by omega) ?_
  have h1 := h.keep f1 id (fun _ _ => id)
  refine LdC_blk h1.tab rfl ?_
  refine NewC_blk (fun p w2 hp h2 f2 _ => ?_)
  have h2' := h1.keep f2 id (fun _ _ => id)
  refine ApL T_ok (e := t_api_Ref) rfl rfl rfl (by decide) h2'.own (Nat.zero_le _) h2 (news := [.int .u64 x]) rfl rfl rfl (by omega) (show (l.length + 1) * 8 ≤ 140737488355328 by omega) (fun v' w3 o3 f3 l3 => ?_)
  have f12 := f1.no f2
  have s12 := f12.size
  have k3 : Fr (fun k => v.ownBlock = some k) w w3 := f12.noL f3
  refine own_slice o3 |>.elim fun a3 ⟨c3, e3⟩ => ?_
  subst e3
  refine StC_blk (h.tab.keep k3 h.ne) rfl rfl (fun w4 h4 f4 _ => ?_)
  refine ⟨rfl, _, ⟨h4, ?_, h.b0, by rw [List.length_append]; simp; omega, fun y hy => by
    rcases List.mem_append.1 hy with e | e
    · exact h.us y e
    · rw [List.mem_singleton.1 e]; exact hx⟩, ?_, k3.trans f4 (fun _ _ e => .inr e) (fun _ _ e => .inl e)⟩
  · have o4 := own_keepV o3 f4 (fun k hk e => ?_)
    · rw [List.length_append]
      have e : u64i (l ++ [x]) = u64i l ++ [.int .u64 x] := by simp [u64i]
      rw [e]; exact o4
    · have e : k = b := e
      subst e
      rcases l3 with e | e
      · rw [hk] at e; exact h.ne e.symm
      · rw [hk] at e
        injection e with e
        have := h.tab.lt
        have := f2.size
        omega
  · rcases l3 with e | e
    · exact .inl e
    · exact .inr ⟨_, e, s12⟩
end Go.Proofs.YtdhbpklmkibmbaaGreat
/- Layer 8 (buffer): contracts. -/
namespace Go.Proofs.YtdhbpklmkibmbaaGreat
open Go.Vc

/-- A buffer at o in the block b. -/
structure IsBuf (w : World) (b o : Nat) (cs : List Value) (x y : Int) : Prop where
  blk : Blk w b t_buffer_Buffer cs
  c0 : cs[o]? = some (.int .i64 x)
  c1 : cs[o + 1]? = some (.int .i64 y)
def bufSet (cs : List Value) (o : Nat) (x y : Int) : List Value := (cs.set o (.int .i64 x)).set (o + 1) (.int .i64 y)
section
variable {w w' : World} {b o : Nat} {cs : List Value} {x y : Int}
theorem IsBuf.keep {F : Nat → Prop} (h : IsBuf w b o cs x y) (f : Fr F w w') (hb : ¬ F b) : IsBuf w' b o cs x y := ⟨h.blk.keep f hb, h.c0, h.c1⟩
theorem bufSet_len : (bufSet cs o x y).length = cs.length := by simp [bufSet]
end
theorem buffer_New_spec (x y : Int) (w : World) (h0 : 0 ≤ x) (h1 : x < y) (h2 : y ≤ 4194304) : CallC Pr f_buffer_New [.int .i64 x, .int .i64 y] w (fun v w' => v = .tuple #[.agg #[.int .i64 x, .int .i64 y], .int .i64 0] ∧ Fr No w w') := by
  refine call_sound T_ok fun_buffer_New rfl (by kernel_rfl) rfl (Kp ?_)
  refine NewC_blk (fun b w1 hb h1' f1 _ => ?_)
  refine Br_df (show ¬ x < 0 by omega) ?_
  refine Br_df (show ¬ y < x by omega) ?_
  refine Br_df (show ¬ y > 4194304 by omega) ?_
  refine Br_df (show ¬ x = y by omega) ?_
  refine StN_blk (vs := [.int .i64 x, .int .i64 y]) h1' rfl (Nat.le_refl 2) (fun w2 h2 f2 _ => ?_)
  have h2 : Blk w2 b t_buffer_Buffer [.int .i64 x, .int .i64 y] := h2
  refine LdN_blk (vs := [.int .i64 x, .int .i64 y]) h2 rfl rfl ?_
  exact ⟨rfl, f1.new f2 (fun _ _ e => e) (fun k e => by omega)⟩
theorem Rest_nil (w : World) : CallC Pr f_buffer_Buffer_Rest [.pointer none] w (fun v w' => v = .tuple #[.int .i64 0, .int .i64 0] ∧ Fr No w w') := by
  refine call_sound T_ok fun_buffer_Buffer_Rest rfl (by kernel_rfl) rfl (Kp ?_)
  exact ⟨rfl, Fr.refl _ _⟩
theorem Rest_spec {b o : Nat} {cs : List Value} {x y : Int} (w : World) (h : IsBuf w b o cs x y) : CallC Pr f_buffer_Buffer_Rest [.pointer (some ⟨b, o, none⟩)] w (fun v w' => v = .tuple #[.int .i64 x, .int .i64 y] ∧ Fr No w w') := by
  refine call_sound T_ok fun_buffer_Buffer_Rest rfl (by kernel_rfl) rfl (Kp ?_)
  refine AnyC_lex T_ok mixed (by kernel_rfl) (by kernel_rfl) ?_
  refine LdS_idx h.blk h.c0 ?_
  refine LdS_idx h.blk h.c1 ?_
  exact ⟨rfl, Fr.drew _⟩
theorem Left_spec {b o : Nat} {cs : List Value} {x y : Int} (w : World) (h : IsBuf w b o cs x y) : CallC Pr f_buffer_Buffer_Left [.pointer (some ⟨b, o, none⟩)] w (fun v w' => v = .int .i64 (IntKind.i64.wrap (y - x)) ∧ Fr No w w') := by
  refine call_sound T_ok fun_buffer_Buffer_Left rfl (by kernel_rfl) rfl (Kp ?_)
  refine CallC_intro (Rest_spec w h) (fun v w1 ⟨hv, f1⟩ => ?_)
  subst hv
  exact ⟨rfl, f1⟩
theorem Take_bad {b o : Nat} (n : Int) (w : World) (hn : n < 1) : CallC Pr f_buffer_Buffer_Take [.pointer (some ⟨b, o, none⟩), .int .i64 n] w (fun v w' => v = .tuple #[.int .i64 0, .int .i64 2] ∧ Fr No w w') := by
  refine call_sound T_ok fun_buffer_Buffer_Take rfl (by kernel_rfl) rfl (Kp ?_)
  refine Br_dt (show n < 1 from hn) ?_
  exact ⟨rfl, Fr.refl _ _⟩
theorem Take_full {b o : Nat} {cs : List Value} {x y : Int} (n : Int) (w : World) (h : IsBuf w b o cs x y) (hb : 0 ≤ x ∧ x ≤ 4194304 ∧ 0 ≤ y ∧ y ≤ 4194304) (hn : 1 ≤ n) (hf : y - x < n) :
    CallC Pr f_buffer_Buffer_Take [.pointer (some ⟨b, o, none⟩), .int .i64 n] w (fun v w' => v = .tuple #[.int .i64 0, .int .i64 6] ∧ Fr No w w') := by
  refine call_sound T_ok fun_buffer_Buffer_Take rfl (by kernel_rfl) rfl (Kp ?_)
  refine Br_df (show ¬ n < 1 by omega) ?_
  refine CallC_intro (Left_spec w h) (fun v w1 ⟨hv, f1⟩ => ?_)
  subst hv
  refine Br_dt (show n > IntKind.i64.wrap (y - x) by rw [wrap_i64 (by omega) (by omega)]; omega) ?_
  exact ⟨rfl, f1⟩
theorem Take_spec {b o : Nat} {cs : List Value} {x y : Int} (n : Int) (w : World) (h : IsBuf w b o cs x y) (hb : 0 ≤ x ∧ x ≤ 4194304 ∧ 0 ≤ y ∧ y ≤ 4194304) (hn : 1 ≤ n) (hf : n ≤ y - x) :
    CallC Pr f_buffer_Buffer_Take [.pointer (some ⟨b, o, none⟩), .int .i64 n] w (fun v w' => v = .tuple #[.int .i64 x, .int .i64 0] ∧ IsBuf w' b o (cs.set o (.int .i64 (x + n))) (x + n) y ∧ Fr (· = b) w w') := by
  refine call_sound T_ok fun_buffer_Buffer_Take rfl (by kernel_rfl) rfl (Kp ?_)
  refine Br_df (show ¬ n < 1 by omega) ?_
  refine CallC_intro (Left_spec w h) (fun v w1 ⟨hv, f1⟩ => ?_)
  subst hv
  refine Br_df (show ¬ n > IntKind.i64.wrap (y - x) by rw [wrap_i64 (by omega) (by omega)]; omega) ?_
  have h1 := h.keep f1 id
  have e : IntKind.i64.wrap (x + n) = x + n := wrap_i64 (by omega) (by omega)
  refine LdC_idx h1.blk h1.c0 ?_
  refine StC_idx h1.blk rfl h1.c0 (fun w2 h2 f2 _ => ?_)
  rw [e] at h2
  have ho : o < cs.length := (List.getElem?_eq_some_iff.1 h.c0).1
  have c0' : (cs.set o (.int .i64 (x + n)))[o]? = some (.int .i64 (x + n)) := List.getElem?_set_self ho
  refine LdC_idx h2 c0' ?_
  have e2 : IntKind.i64.wrap (x + n - n) = x := by rw [wrap_i64 (by omega) (by omega)]; omega
  refine ⟨congrArg (fun z => Value.tuple #[.int .i64 z, .int .i64 0]) e2, ⟨h2, c0', ?_⟩, f1.noL f2⟩
  rw [List.getElem?_set_ne (by omega)]; exact h.c1
theorem buf_Drop_spec {b o : Nat} {cs : List Value} {x y : Int} (w : World) (h : IsBuf w b o cs x y) :
    CallC Pr f_buffer_Buffer_Drop [.pointer (some ⟨b, o, none⟩)] w (fun v w' => v = .tuple #[.int .i64 x, .int .i64 y] ∧ IsBuf w' b o (bufSet cs o 0 0) 0 0 ∧ Fr (· = b) w w') := by
  refine call_sound T_ok fun_buffer_Buffer_Drop rfl (by kernel_rfl) rfl (Kp ?_)
  refine CallC_intro (Rest_spec w h) (fun v w1 ⟨hv, f1⟩ => ?_)
  subst hv
  have h1 := h.keep f1 id
  have ho : o + 1 < cs.length := (List.getElem?_eq_some_iff.1 h.c1).1
  refine StN_blk (vs := [.int .i64 0, .int .i64 0]) h1.blk rfl (show o + 2 ≤ cs.length by omega) (fun w2 h2 f2 _ => ?_)
  refine ⟨rfl, ⟨h2, ?_, ?_⟩, f1.noL f2⟩
  · show (bufSet cs o 0 0)[o]? = _
    unfold bufSet
    rw [List.getElem?_set_ne (by omega), List.getElem?_set_self (by omega)]
  · show (bufSet cs o 0 0)[o + 1]? = _
    unfold bufSet
    rw [List.getElem?_set_self (by rw [List.length_set]; omega)]
end Go.Proofs.YtdhbpklmkibmbaaGreat
