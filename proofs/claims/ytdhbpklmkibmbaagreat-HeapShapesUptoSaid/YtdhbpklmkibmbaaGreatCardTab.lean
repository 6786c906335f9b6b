/- Layer 9 (cards): the table and Note. -/
import Derived.Test.YtdhbpklmkibmbaaGreatBitsE
import Derived.Test.YtdhbpklmkibmbaaGreatGeom5
namespace Go.Proofs.YtdhbpklmkibmbaaGreat
open Go.Vc

/-- A table of cards at t, its set at b, that one's words at r. -/
structure IsCards (w : World) (t b r : Nat) (n : Int) (S : Nat → Bool) : Prop where
  tab : Blk w t t_cards_Table [.pointer (some ⟨b, 0, none⟩)]
  set : IsBits w b r n S
section
variable {w w' : World} {t b r : Nat} {n : Int} {S : Nat → Bool}
theorem IsCards.keep {F : Nat → Prop} (h : IsCards w t b r n S) (f : Fr F w w') (ht : ¬ F t) (hb : ¬ F b) (hr : ¬ F r) : IsCards w' t b r n S := ⟨h.tab.keep f ht, h.set.keep f hb hr⟩
theorem IsCards.ne (h : IsCards w t b r n S) : t ≠ r := by
  rintro rfl
  obtain ⟨ws, h2, _⟩ := h.set
  have := (h.tab.inj h2.row).2
  cases this
end
theorem cards_New_bad (a0 a1 a2 a3 a4 a5 : Int) (w : World) (h : a4 < 0 ∨ 4194304 < a4) : CallC Pr f_cards_New [.agg #[.int .i64 a0, .int .i64 a1, .int .i64 a2, .int .i64 a3, .int .i64 a4, .int .i64 a5]] w (fun v w' => v = .tuple #[.pointer none, .int .i64 20] ∧ Fr No w w') := by
  refine call_sound T_ok fun_cards_New rfl (by kernel_rfl) rfl (Kp ?_)
  refine NewC_blk (fun p w1 hp h1 f1 _ => ?_)
  refine LdC_blk h1 rfl ?_
  refine CallC_intro (bits_New_bad a4 w1 h) (fun v w2 ⟨hv, f2⟩ => ?_)
  subst hv
  exact ⟨rfl, f1.no f2⟩
theorem cards_New_spec (a0 a1 a2 a3 a4 a5 : Int) (w : World) (h0 : 0 ≤ a4) (h1 : a4 ≤ 4194304) : CallC Pr f_cards_New [.agg #[.int .i64 a0, .int .i64 a1, .int .i64 a2, .int .i64 a3, .int .i64 a4, .int .i64 a5]] w
    (fun v w' => ∃ t b r, v = .tuple #[.pointer (some ⟨t, 0, none⟩), .int .i64 0] ∧ IsCards w' t b r a4 (fun _ => false) ∧ Fr No w w' ∧ w.heap.size ≤ t ∧ w.heap.size ≤ b ∧ w.heap.size ≤ r) := by
  refine call_sound T_ok fun_cards_New rfl (by kernel_rfl) rfl (Kp ?_)
  refine NewC_blk (fun p w1 hp hb1 f1 _ => ?_)
  refine LdC_blk hb1 rfl ?_
  refine CallC_intro (bits_New_spec a4 w1 h0 h1) (fun v w2 ⟨b, r, hv, hB, f2, hb, hr⟩ => ?_)
  subst hv
  refine NewC_blk (fun t w3 ht h3 f3 _ => ?_)
  have s1 := f1.size
  have s2 := f2.size
  exact ⟨t, b, r, rfl, ⟨h3, hB.keep f3 id id⟩, (f1.no f2).no f3, by omega, by omega, by omega⟩
theorem Is_nil (i : Int) (w : World) : CallC Pr f_cards_Table_Is [.pointer none, .int .i64 i] w (fun v w' => v = .bool false ∧ Fr No w w') := by
  refine call_sound T_ok fun_cards_Table_Is rfl (by kernel_rfl) rfl (Kp ?_)
  exact ⟨rfl, Fr.refl _ _⟩
theorem Is_spec {t b r : Nat} {n : Int} {S : Nat → Bool} (i : Int) (w : World) (h : IsCards w t b r n S) : CallC Pr f_cards_Table_Is [.pointer (some ⟨t, 0, none⟩), .int .i64 i] w (fun v w' => v = .bool (has S i) ∧ Fr No w w') := by
  refine call_sound T_ok fun_cards_Table_Is rfl (by kernel_rfl) rfl (Kp ?_)
  refine LdC_blk h.tab rfl ?_
  refine CallC_intro (Has_spec i w h.set) (fun v w1 ⟨hv, f1⟩ => ?_)
  subst hv
  exact ⟨rfl, f1⟩
theorem Dirty_nil (i : Int) (w : World) : CallC Pr f_cards_Table_Dirty [.pointer none, .int .i64 i] w (fun v w' => v = .tuple #[.bool false, .int .i64 1] ∧ Fr No w w') := by
  refine call_sound T_ok fun_cards_Table_Dirty rfl (by kernel_rfl) rfl (Kp ?_)
  exact ⟨rfl, Fr.refl _ _⟩
theorem Clean_nil (i : Int) (w : World) : CallC Pr f_cards_Table_Clean [.pointer none, .int .i64 i] w (fun v w' => v = .tuple #[.bool false, .int .i64 1] ∧ Fr No w w') := by
  refine call_sound T_ok fun_cards_Table_Clean rfl (by kernel_rfl) rfl (Kp ?_)
  exact ⟨rfl, Fr.refl _ _⟩
theorem Dirty_out {t b r : Nat} {n : Int} {S : Nat → Bool} (i : Int) (w : World) (h : IsCards w t b r n S) (hi : ¬ (0 ≤ i ∧ i < n)) : CallC Pr f_cards_Table_Dirty [.pointer (some ⟨t, 0, none⟩), .int .i64 i] w (fun v w' => v = .tuple #[.bool false, .int .i64 2] ∧ Fr No w w') := by
  refine call_sound T_ok fun_cards_Table_Dirty rfl (by kernel_rfl) rfl (Kp ?_)
  refine LdC_blk h.tab rfl ?_
  refine CallC_intro (Put_out i w h.set hi) (fun v w1 ⟨hv, f1⟩ => ?_)
  subst hv
  exact ⟨rfl, f1⟩
theorem Dirty_spec {t b r : Nat} {n : Int} {S : Nat → Bool} (i : Int) (w : World) (h : IsCards w t b r n S) (h0 : 0 ≤ i) (h1 : i < n) : CallC Pr f_cards_Table_Dirty [.pointer (some ⟨t, 0, none⟩), .int .i64 i] w (fun v w' => v = .tuple #[.bool (!S i.toNat), .int .i64 0] ∧ IsCards w' t b r n (bput S i.toNat) ∧ Fr (· = r) w w') := by
  refine call_sound T_ok fun_cards_Table_Dirty rfl (by kernel_rfl) rfl (Kp ?_)
  refine LdC_blk h.tab rfl ?_
  refine CallC_intro (Put_spec i w h.set h0 h1) (fun v w1 ⟨hv, h2, f1⟩ => ?_)
  subst hv
  exact ⟨rfl, ⟨h.tab.keep f1 h.ne, h2⟩, f1⟩
theorem Clean_out {t b r : Nat} {n : Int} {S : Nat → Bool} (i : Int) (w : World) (h : IsCards w t b r n S) (hi : ¬ (0 ≤ i ∧ i < n)) : CallC Pr f_cards_Table_Clean [.pointer (some ⟨t, 0, none⟩), .int .i64 i] w (fun v w' => v = .tuple #[.bool false, .int .i64 2] ∧ Fr No w w') := by
  refine call_sound T_ok fun_cards_Table_Clean rfl (by kernel_rfl) rfl (Kp ?_)
  refine LdC_blk h.tab rfl ?_
  refine CallC_intro (Drop_out i w h.set hi) (fun v w1 ⟨hv, f1⟩ => ?_)
  subst hv
  exact ⟨rfl, f1⟩
theorem Clean_spec {t b r : Nat} {n : Int} {S : Nat → Bool} (i : Int) (w : World) (h : IsCards w t b r n S) (h0 : 0 ≤ i) (h1 : i < n) : CallC Pr f_cards_Table_Clean [.pointer (some ⟨t, 0, none⟩), .int .i64 i] w (fun v w' => v = .tuple #[.bool (S i.toNat), .int .i64 0] ∧ IsCards w' t b r n (bdrop S i.toNat) ∧ Fr (· = r) w w') := by
  refine call_sound T_ok fun_cards_Table_Clean rfl (by kernel_rfl) rfl (Kp ?_)
  refine LdC_blk h.tab rfl ?_
  refine CallC_intro (Drop_spec i w h.set h0 h1) (fun v w1 ⟨hv, h2, f1⟩ => ?_)
  subst hv
  exact ⟨rfl, ⟨h.tab.keep f1 h.ne, h2⟩, f1⟩
/-- Is a store to be noted? -/
def noteP (a0 p from_ field to : Int) : Prop := (from_ ≠ 1 ∧ from_ ≠ 2) ∧ to ≠ 0 ∧ to ≤ 4194304 ∧ (0 ≤ field ∧ field < a0) ∧ (0 ≤ to - 1 ∧ to - 1 < a0) ∧ field / p ≠ (to - 1) / p
instance (a0 p from_ field to : Int) : Decidable (noteP a0 p from_ field to) := by unfold noteP; infer_instance
theorem Note_spec (a0 a2 a3 a4 a5 from_ field to : Int) (k : Nat) (hk : k ≤ 20) (ha : a0 ≤ 4194304) (h0 : 0 ≤ to) (w : World) :
    CallC Pr f_cards_Note [geoV a0 (2 ^ k) a2 a3 a4 a5, .int .i64 from_, .int .i64 field, .int .u64 to] w (fun v w' => v = .bool (decide (noteP a0 (2 ^ k) from_ field to)) ∧ Fr No w w') := by
  have p := pow_pos2 k
  refine call_sound T_ok fun_cards_Note rfl (by kernel_rfl) rfl (Kp ?_)
  refine NewC_blk (fun q w1 hq h1 f1 _ => ?_)
  have h1 : Blk w1 q t_geom_Geom (geoL a0 (2 ^ k) a2 a3 a4 a5) := h1
  refine Br_dec (fun g0 => ?_) (fun g0 => ?_)
  · have g0 : from_ = 1 := g0
    exact ⟨by rw [decide_eq_false (fun e => e.1.1 g0)]; rfl, f1⟩
  · have g0 : ¬ from_ = 1 := g0
    refine Br_dec (fun g1 => ?_) (fun g1 => ?_)
    · have g1 : from_ = 2 := g1
      exact ⟨by rw [decide_eq_false (fun e => e.1.2 g1)]; rfl, f1⟩
    · have g1 : ¬ from_ = 2 := g1
      refine Br_ndec (fun g2 => ?_) (fun g2 => ?_)
      · have g2 : ¬ to = 0 := g2
        refine Br_dec (fun g3 => ?_) (fun g3 => ?_)
        · have g3 : to ≤ 4194304 := g3
          refine LdC_blk h1 rfl ?_
          refine Br_dt (show (2 : Int) ^ k > 0 by omega) ?_
          refine LdN_blk (vs := geoL a0 (2 ^ k) a2 a3 a4 a5) h1 rfl rfl ?_
          refine CallC_intro (Cross_spec a0 a2 a3 a4 a5 field (IntKind.i64.wrap (IntKind.i64.wrap to - 1)) k hk ha w1) (fun v w2 ⟨hv, f2⟩ => ?_)
          subst hv
          refine ⟨?_, f1.no f2⟩
          show Value.bool (decide _) = _
          rw [wrap_i64 (n := to) (by omega) (by omega), wrap_i64 (n := to - 1) (by omega) (by omega)]
          congr 1
          exact decide_eq_decide.2 ⟨fun h => ⟨⟨g0, g1⟩, g2, g3, h⟩, fun h => h.2.2.2⟩
        · have g3 : ¬ to ≤ 4194304 := g3
          exact ⟨by rw [decide_eq_false (fun e => g3 e.2.2.1)]; rfl, f1⟩
      · have g2 : to = 0 := g2
        exact ⟨by rw [decide_eq_false (fun e => e.2.1 g2)]; rfl, f1⟩
end Go.Proofs.YtdhbpklmkibmbaaGreat
