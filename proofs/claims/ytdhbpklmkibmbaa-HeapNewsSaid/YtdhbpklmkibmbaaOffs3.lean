/- Layer 6 (offs): what its functions do, one contract a function. -/
import Derived.Test.YtdhbpklmkibmbaaVcT
import Derived.Test.YtdhbpklmkibmbaaVcI
namespace Go.Proofs.Ytdhbpklmkibmbaa
open Go.Vc

def u32s (l : List Int) : List Value := l.map (.int .u32)
theorem u32s_get {l : List Int} {k : Nat} (h : k < l.length) : (u32s l)[k]? = some (.int .u32 l[k]) := by simp [u32s, h]
theorem u32s_set (l : List Int) (k : Nat) (v : Int) : (u32s l).set k (.int .u32 v) = u32s (l.set k v) := by simp [u32s, List.map_set]
theorem u32s_len (l : List Int) : (u32s l).length = l.length := by simp [u32s]

/-- An offset table: its struct at block b, its row at block r. -/
structure IsOffs (w : World) (b r : Nat) (words card : Int) (back : List Int) : Prop where
  tab : Blk w b t_offs_Table [.int .i64 words, .int .i64 card, .slice (some ⟨r, 0, none⟩) back.length back.length]
  row : Blk w r t_uint32 (u32s back)
  w0 : 0 ≤ words
  w1 : words ≤ 4194304
  c0 : 1 ≤ card
  n0 : (back.length : Int) * card ≤ words
theorem IsOffs.keep {w w' : World} {b r : Nat} {words card : Int} {back : List Int} {F : Nat → Prop} (h : IsOffs w b r words card back) (f : Fr F w w') (hb : ¬ F b) (hr : ¬ F r) : IsOffs w' b r words card back :=
  ⟨h.tab.keep f hb, h.row.keep f hr, h.w0, h.w1, h.c0, h.n0⟩
theorem IsOffs.ne {w : World} {b r : Nat} {words card : Int} {back : List Int} (h : IsOffs w b r words card back) : b ≠ r := by
  rintro rfl
  have := (h.tab.inj h.row).2
  cases this
theorem IsOffs.set {w w' : World} {b r : Nat} {words card : Int} {back : List Int} (h : IsOffs w b r words card back) (k : Nat) (v : Int)
    (h1 : Blk w' r t_uint32 (u32s (back.set k v))) (f : Fr (· = r) w w') : IsOffs w' b r words card (back.set k v) :=
  ⟨by rw [List.length_set]; exact h.tab.keep f h.ne, h1, h.w0, h.w1, h.c0, by rw [List.length_set]; exact h.n0⟩
theorem IsOffs.len {w : World} {b r : Nat} {words card : Int} {back : List Int} (h : IsOffs w b r words card back) : (back.length : Int) ≤ 4194304 := by
  have h1 := h.n0
  have h2 := h.c0
  have h3 := h.w1
  have : (back.length : Int) * 1 ≤ (back.length : Int) * card := Int.mul_le_mul_of_nonneg_left h2 (by omega)
  omega
theorem mul_bd {i n c : Int} (h0 : 0 ≤ i) (h1 : i ≤ n) (hc : 1 ≤ c) : 0 ≤ i * c ∧ i * c ≤ n * c :=
  ⟨Int.mul_nonneg h0 (by omega), Int.mul_le_mul_of_nonneg_right h1 (by omega)⟩

theorem row_nil (i j : Int) (w : World) : CallC Pr f_offs_Table_row [.pointer none, .int .i64 i, .int .i64 j] w (fun v w' => v = .int .i64 1 ∧ Fr No w w') := by
  refine call_sound T_ok fun_offs_Table_row rfl (by kernel_rfl) rfl (Kp ?_)
  exact ⟨rfl, Fr.refl _ _⟩
theorem row_spec {b r : Nat} {words card : Int} {back : List Int} (i j : Int) (w : World) (h : IsOffs w b r words card back) :
    CallC Pr f_offs_Table_row [.pointer (some ⟨b, 0, none⟩), .int .i64 i, .int .i64 j] w (fun v w' => v = .int .i64 (if i < 0 ∨ j < i ∨ words < j then 2 else 0) ∧ Fr No w w') := by
  refine call_sound T_ok fun_offs_Table_row rfl (by kernel_rfl) rfl (Kp ?_)
  refine Br_dec (fun h0 => ?_) (fun h0 => ?_)
  · refine ⟨?_, Fr.refl _ _⟩
    rw [if_pos (.inl h0)]; rfl
  · refine Br_dec (fun h1 => ?_) (fun h1 => ?_)
    · refine ⟨?_, Fr.refl _ _⟩
      rw [if_pos (.inr (.inl h1))]; rfl
    · refine LdC_blk h.tab rfl ?_
      refine Br_dec (fun h2 => ?_) (fun h2 => ?_)
      · refine ⟨?_, Fr.refl _ _⟩
        rw [if_pos (.inr (.inr (by omega)))]; rfl
      · refine ⟨?_, Fr.refl _ _⟩
        rw [if_neg (by omega)]; rfl

theorem u32s_get? {l : List Int} {k : Nat} {x : Int} (h : l[k]? = some x) : (u32s l)[k]? = some (.int .u32 x) := by simp [u32s, h]
theorem lt_of_get? {α : Type} {l : List α} {k : Nat} {x : α} (h : l[k]? = some x) : k < l.length := by
  rcases Nat.lt_or_ge k l.length with h' | h'
  · exact h'
  · rw [List.getElem?_eq_none h'] at h; cases h
end Go.Proofs.Ytdhbpklmkibmbaa
/- Layer 6 (offs): the closures. -/
namespace Go.Proofs.Ytdhbpklmkibmbaa
open Go.Vc

theorem Put1_spec {b r tb ta : Nat} {words card at_ : Int} {back : List Int} (i : Int) (w : World) (h : IsOffs w b r words card back) (ht : Blk w tb t_p_offs_Table [.pointer (some ⟨b, 0, none⟩)])
    (ha : Blk w ta t_int [.int .i64 at_]) (h0 : 0 ≤ i) (hi : i < back.length) (hr : 0 ≤ at_) (h1 : at_ ≤ i * card) :
    CallC Pr f_offs_Table_Put_1 [.int .i64 i, .pointer (some ⟨tb, 0, none⟩), .pointer (some ⟨ta, 0, none⟩)] w (fun _ w' => IsOffs w' b r words card (back.set i.toNat (i * card - at_ + 1)) ∧ Fr (· = r) w w') := by
  refine call_sound T_ok fun_offs_Table_Put_1 rfl (by kernel_rfl) rfl (Kp ?_)
  refine AnyC_store T_ok mixed (by kernel_rfl) (by kernel_rfl) ?_
  refine LdS_blk ht rfl ?_
  refine LdS_blk h.tab rfl ?_
  refine LdS_blk ht rfl ?_
  refine LdS_blk h.tab rfl ?_
  refine LdS_blk ha rfl ?_
  refine Sd_intro ⟨by omega, by omega⟩ ?_
  have hi' : i.toNat < back.length := by omega
  refine ⟨?_, trivial⟩
  refine StC_idx h.row rfl (by simp only [Nat.mul_one, Nat.zero_add]; exact u32s_get hi') (fun w' hb hf _ => ?_)
  have hf := hf.drewL
  have hm := mul_bd (i := i) (n := back.length) (c := card) (by omega) (by omega) h.c0
  have hn := h.n0
  have hw := h.w1
  refine ⟨h.set _ _ ?_ hf, hf⟩
  have e : IntKind.u32.wrap (IntKind.u32.wrap (IntKind.i64.wrap (IntKind.i64.wrap (i * card) - at_)) + 1) = i * card - at_ + 1 := by
    rw [wrap_i64 (n := i * card) (by omega) (by omega), wrap_i64 (by omega) (by omega), wrap_u32 (n := i * card - at_) (by omega) (by omega), wrap_u32 (by omega) (by omega)]
  simp only [Nat.mul_one, Nat.zero_add] at hb
  rw [← u32s_set, ← e]
  exact hb
end Go.Proofs.Ytdhbpklmkibmbaa
/- Layer 6 (offs): New, Put, Drop, the law's awake. -/
namespace Go.Proofs.Ytdhbpklmkibmbaa
open Go.Vc

def geomV (a0 a1 a2 a3 a4 a5 : Int) : Value := .agg #[.int .i64 a0, .int .i64 a1, .int .i64 a2, .int .i64 a3, .int .i64 a4, .int .i64 a5]
theorem offs_New_spec (a0 a1 a2 a3 a4 a5 : Int) (w : World) (h0 : 0 ≤ a0) (h1 : a0 ≤ 4194304) (h2 : 1 ≤ a2) (h3 : a4 = a0 / a2) :
    CallC Pr f_offs_New [geomV a0 a1 a2 a3 a4 a5] w (fun v w' => ∃ b r, v = .tuple #[.pointer (some ⟨b, 0, none⟩), .int .i64 0] ∧ IsOffs w' b r a0 a2 (List.replicate a4.toNat 0) ∧ Fr No w w' ∧ w.heap.size ≤ b ∧ w.heap.size ≤ r) := by
  refine call_sound T_ok fun_offs_New rfl (by kernel_rfl) rfl (Kp ?_)
  refine NewC_blk (fun b w1 hb h1 f1 _ => ?_)
  refine AnyC_lex T_ok mixed (by kernel_rfl) (by kernel_rfl) ?_
  have e1 : ¬ a2 < 1 := by omega
  have e2 : ¬ a0 < 0 := by omega
  have e3 : ¬ a0 > 4194304 := by omega
  have e4 : IntKind.i64.wrap (Int.tdiv a0 a2) = a0 / a2 := by
    have := Int.ediv_nonneg (a := a0) (b := a2) (by omega) (by omega)
    have := Int.ediv_le_self (a := a0) a2 (by omega)
    rw [tdiv_eq (by omega), wrap_i64 (by omega) (by omega)]
  refine LdS_blk h1 rfl ?_
  refine Br_df e1 ?_
  refine LdS_blk h1 rfl ?_
  refine Br_df e2 ?_
  refine LdS_blk h1 rfl ?_
  refine Br_df e3 ?_
  refine LdS_blk h1 rfl ?_
  refine LdS_blk h1 rfl ?_
  refine LdS_blk h1 rfl ?_
  refine Sd_intro (by omega) ?_
  refine Br_nf (h3.trans e4.symm) ?_
  refine AnyC_ord [0,1,2,3,4,5,1006,7,1008,9,10] T_ok mixed (by kernel_rfl) (by kernel_rfl) ?_
  refine LdS_blk h1 rfl ?_
  refine LdS_blk h1 rfl ?_
  refine LdS_blk h1 rfl ?_
  refine ⟨?_, trivial⟩
  have n0 : 0 ≤ a4 := by rw [h3]; exact Int.ediv_nonneg h0 (by omega)
  have n1 : a4 ≤ 4194304 := by
    have := Int.ediv_le_self (a := a0) a2 h0
    omega
  refine MkC T_ok (z := .int .u32 0) rfl rfl rfl rfl n0 (by omega) (show (4 : Int) * a4 ≤ _ by omega) (fun r w2 hr h2' f2 s2 => ?_)
  have f1' : Fr No w w2 := (f1.no (Fr.drew w1)).no ((Fr.drew _).no f2)
  refine Sd_intro (((Fr.drew w1).no ((Fr.drew _).no f2)).old) ?_
  refine ⟨?_, trivial⟩
  refine NewC_blk (fun b3 w3 hb3 h3' f3 s3 => ?_)
  refine Sd_intro ((((Fr.drew w1).no ((Fr.drew _).no f2)).no f3).old) ?_
  have hr' : r = w1.heap.size := hr
  have hs := f1.size
  refine ⟨b3, r, rfl, ⟨?_, ?_, by omega, by omega, by omega, ?_⟩, f1'.no f3, by omega, by omega⟩
  · rw [List.length_replicate]; exact h3'
  · have : u32s (List.replicate a4.toNat 0) = List.replicate a4.toNat (.int .u32 0) := by simp [u32s]
    rw [this]
    exact h2'.keep f3 id
  · rw [List.length_replicate, Int.toNat_of_nonneg n0, h3]
    exact Int.ediv_mul_le a0 (by omega)

theorem offs_Put_nil (at_ size : Int) (w : World) : CallC Pr f_offs_Table_Put [.pointer none, .int .i64 at_, .int .i64 size] w (fun v w' => v = .int .i64 1 ∧ Fr No w w') := by
  refine call_sound T_ok fun_offs_Table_Put rfl (by kernel_rfl) rfl (Kp ?_)
  refine NewC_blk (fun b w1 hb h1 f1 _ => ?_)
  refine NewC_blk (fun b2 w2 hb2 h2 f2 _ => ?_)
  refine LdC_blk (h1.keep f2 id) rfl ?_
  refine LdC_blk (h1.keep f2 id) rfl ?_
  refine LdC_blk h2 rfl ?_
  refine LdC_blk h2 rfl ?_
  refine CallC_intro (row_nil _ _ w2) (fun v w3 ⟨hv, f3⟩ => ?_)
  subst hv
  refine LdC_blk ((h1.keep f2 id).keep f3 id) rfl ?_
  exact ⟨rfl, (f1.no f2).no f3⟩
end Go.Proofs.Ytdhbpklmkibmbaa
