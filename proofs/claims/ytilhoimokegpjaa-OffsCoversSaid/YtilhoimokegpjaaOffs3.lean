/- Layer 6 (offs): New, Put, Drop, the law's awake. -/
import Derived.Test.YtilhoimokegpjaaOffs2
namespace Go.Proofs.Ytilhoimokegpjaa
open Go.Vc

def geomV (a0 a1 a2 a3 a4 a5 : Int) : Value := .agg #[.int .i64 a0, .int .i64 a1, .int .i64 a2, .int .i64 a3, .int .i64 a4, .int .i64 a5]
theorem small6_spec (w : World) : CallC Pr f_gleanerlaw06_small [] w (fun v w' => v = geomV 256 64 8 4 32 192 ∧ Fr No w w') := by
  refine call_sound T_ok fun_gleanerlaw06_small rfl (by kernel_rfl) rfl ?_
  refine NewC_blk (fun b w1 hb h1 f1 _ => ?_)
  refine StN_blk h1 rfl (by decide) (fun w2 h2 f2 _ => ?_)
  refine LdN_blk (vs := [.int .i64 256, .int .i64 64, .int .i64 8, .int .i64 4, .int .i64 32, .int .i64 192]) h2 rfl rfl ?_
  exact ⟨rfl, f1.new f2 (fun _ _ e => e) (fun _ e => by omega)⟩
theorem offs_New_spec (a0 a1 a2 a3 a4 a5 : Int) (w : World) (h0 : 0 ≤ a0) (h1 : a0 ≤ 4194304) (h2 : 1 ≤ a2) (h3 : a4 = a0 / a2) :
    CallC Pr f_offs_New [geomV a0 a1 a2 a3 a4 a5] w (fun v w' => ∃ b r, v = .tuple #[.pointer (some ⟨b, 0, none⟩), .int .i64 0] ∧ IsOffs w' b r a0 a2 (List.replicate a4.toNat 0) ∧ Fr No w w' ∧ w.heap.size ≤ b ∧ w.heap.size ≤ r) := by
  refine call_sound T_ok fun_offs_New rfl (by kernel_rfl) rfl ?_
  refine NewC_blk (fun b w1 hb h1 f1 _ => ?_)
  refine AnyC_lex T_ok mixed (by kernel_rfl) (by kernel_rfl) ?_
  have e1 : ¬ a2 < 1 := by omega
  have e2 : ¬ a0 < 0 := by omega
  have e3 : ¬ a0 > 4194304 := by omega
  have e4 : IntKind.i64.wrap (Int.tdiv a0 a2) = a0 / a2 := by
    have := Int.ediv_nonneg (a := a0) (b := a2) (by omega) (by omega)
    have := Int.ediv_le_self (a := a0) a2 (by omega)
    rw [tdiv_eq (by omega), wrap_i64 (by omega) (by omega)]
  refine LdS_blk h1 rfl ?_
  refine Br_df e1 ?_
  refine LdS_blk h1 rfl ?_
  refine Br_df e2 ?_
  refine LdS_blk h1 rfl ?_
  refine Br_df e3 ?_
  refine LdS_blk h1 rfl ?_
  refine LdS_blk h1 rfl ?_
  refine LdS_blk h1 rfl ?_
  refine Sd_intro (by omega) ?_
  refine Br_nf (h3.trans e4.symm) ?_
  refine AnyC_ord [0,1,2,3,4,5,1006,7,1008,9,10] T_ok mixed (by kernel_rfl) (by kernel_rfl) ?_
  refine LdS_blk h1 rfl ?_
  refine LdS_blk h1 rfl ?_
  refine LdS_blk h1 rfl ?_
  refine ⟨?_, trivial⟩
  have n0 : 0 ≤ a4 := by rw [h3]; exact Int.ediv_nonneg h0 (by omega)
  have n1 : a4 ≤ 4194304 := by
    have := Int.ediv_le_self (a := a0) a2 h0
    omega
  refine MkC T_ok (z := .int .u32 0) rfl rfl rfl rfl n0 (by omega) (show (4 : Int) * a4 ≤ _ by omega) (fun r w2 hr h2' f2 s2 => ?_)
  have f1' : Fr No w w2 := (f1.no (Fr.drew w1)).no ((Fr.drew _).no f2)
  refine Sd_intro (((Fr.drew w1).no ((Fr.drew _).no f2)).old) ?_
  refine ⟨?_, trivial⟩
  refine NewC_blk (fun b3 w3 hb3 h3' f3 s3 => ?_)
  refine Sd_intro ((((Fr.drew w1).no ((Fr.drew _).no f2)).no f3).old) ?_
  have hr' : r = w1.heap.size := hr
  have hs := f1.size
  refine ⟨b3, r, rfl, ⟨?_, ?_, by omega, by omega, by omega, ?_⟩, f1'.no f3, by omega, by omega⟩
  · rw [List.length_replicate]; exact h3'
  · have : u32s (List.replicate a4.toNat 0) = List.replicate a4.toNat (.int .u32 0) := by simp [u32s]
    rw [this]
    exact h2'.keep f3 id
  · rw [List.length_replicate, Int.toNat_of_nonneg n0, h3]
    exact Int.ediv_mul_le a0 (by omega)

theorem Put_nil (at_ size : Int) (w : World) : CallC Pr f_offs_Table_Put [.pointer none, .int .i64 at_, .int .i64 size] w (fun v w' => v = .int .i64 1 ∧ Fr No w w') := by
  refine call_sound T_ok fun_offs_Table_Put rfl (by kernel_rfl) rfl ?_
  refine NewC_blk (fun b w1 hb h1 f1 _ => ?_)
  refine NewC_blk (fun b2 w2 hb2 h2 f2 _ => ?_)
  refine LdC_blk (h1.keep f2 id) rfl ?_
  refine LdC_blk (h1.keep f2 id) rfl ?_
  refine LdC_blk h2 rfl ?_
  refine LdC_blk h2 rfl ?_
  refine CallC_intro (row_nil _ _ w2) (fun v w3 ⟨hv, f3⟩ => ?_)
  subst hv
  refine LdC_blk ((h1.keep f2 id).keep f3 id) rfl ?_
  exact ⟨rfl, (f1.no f2).no f3⟩
theorem Put_spec {b r : Nat} {words card : Int} {back : List Int} (at_ size : Int) (w : World) (h : IsOffs w b r words card back) (h0 : 0 ≤ at_) (h1 : 1 ≤ size) (h2 : at_ + size ≤ words) (hc : card ≤ 4194304) :
    CallC Pr f_offs_Table_Put [.pointer (some ⟨b, 0, none⟩), .int .i64 at_, .int .i64 size] w
      (fun v w' => v = .int .i64 0 ∧ (∃ bk, IsOffs w' b r words card bk ∧ bk.length = back.length ∧ (∀ k : Nat, k < back.length → bk[k]? = if at_ ≤ (k : Int) * card ∧ (k : Int) * card < at_ + size then some ((k : Int) * card - at_ + 1) else back[k]?)) ∧ Fr (· = r) w w') := by
  have hw := h.w1
  refine call_sound T_ok fun_offs_Table_Put rfl (by kernel_rfl) rfl ?_
  refine NewC_blk (fun b1 w1 hb1 g1 f1 _ => ?_)
  refine NewC_blk (fun b2 w2 hb2 g2 f2 _ => ?_)
  refine LdC_blk (g1.keep f2 id) rfl ?_
  refine Br_df (show ¬ size < 1 by omega) ?_
  refine LdC_blk (g1.keep f2 id) rfl ?_
  refine LdC_blk ((h.keep f1 id id).keep f2 id id).tab rfl ?_
  refine Br_df (show ¬ size > words by omega) ?_
  refine LdC_blk (g1.keep f2 id) rfl ?_
  refine LdC_blk g2 rfl ?_
  refine LdC_blk g2 rfl ?_
  have ej : IntKind.i64.wrap (imax at_ 0 + size) = at_ + size := by rw [imax_eq, show max at_ 0 = at_ from by omega, wrap_i64 (by omega) (by omega)]
  have h' := (h.keep f1 id id).keep f2 id id
  refine CallC_intro (row_spec _ _ w2 h') (fun v w3 ⟨hv, f3⟩ => ?_)
  have g1 := (g1.keep f2 id).keep f3 id
  have g2 := g2.keep f3 id
  have h' := h'.keep f3 id id
  have ev : v = .int .i64 0 := by
    rw [hv]
    refine congrArg (Value.int .i64) (if_neg ?_)
    show ¬(at_ < 0 ∨ IntKind.i64.wrap (imax at_ 0 + size) < at_ ∨ words < IntKind.i64.wrap (imax at_ 0 + size))
    rw [ej]; omega
  subst ev
  refine LdC_blk g1 rfl ?_
  refine LdC_blk g1 rfl ?_
  refine LdC_blk g2 rfl ?_
  refine LdC_blk g2 rfl ?_
  have es : IntKind.i64.wrap (at_ + size) = at_ + size := wrap_i64 (by omega) (by omega)
  have hb := h.tab.lt
  have hr := h.row.lt
  have s1 := f1.size
  refine CallC_intro (R := fun _ w' => ∃ bk, IsOffs w' b r words card bk ∧ bk.length = back.length ∧ (∀ k : Nat, k < back.length → bk[k]? = if at_ ≤ (k : Int) * card ∧ (k : Int) * card < at_ + size then some ((k : Int) * card - at_ + 1) else back[k]?) ∧ Fr (· = r) w3 w') ?_ (fun v w4 ⟨bk, q1, q2, q3, q4⟩ => ⟨rfl, ⟨bk, q1, q2, q3⟩, ((f1.no f2).no f3).noL q4⟩)
  have step := cards_spec at_ (at_ + size) (fun k => k * card - at_ + 1) w3 back h' h0 (by omega) h2 hc (.inl rfl) (env := [.pointer (some ⟨b1, 0, none⟩), .pointer (some ⟨b2, 0, none⟩)])
    (fun w5 bk i hI hF c0 c1 c2 c3 => Put1_spec i w5 hI (g1.keep hF (by show ¬ b1 = r; omega)) (g2.keep hF (by show ¬ b2 = r; omega)) c0 c1 h0 c2)
  have step' : ∀ j : Int, j = at_ + size → CallC Pr f_offs_Table_cards [.pointer (some ⟨b, 0, none⟩), .int .i64 at_, .int .i64 j, .func (.func f_offs_Table_Put_1) #[] #[.pointer (some ⟨b1, 0, none⟩), .pointer (some ⟨b2, 0, none⟩)]] w3
      (fun _ w' => ∃ bk, IsOffs w' b r words card bk ∧ bk.length = back.length ∧ (∀ k : Nat, k < back.length → bk[k]? = if at_ ≤ (k : Int) * card ∧ (k : Int) * card < at_ + size then some ((k : Int) * card - at_ + 1) else back[k]?) ∧ Fr (· = r) w3 w') := fun j e => by subst e; exact step
  exact step' _ es
theorem Drop_nil (from_ to_ : Int) (w : World) : CallC Pr f_offs_Table_Drop [.pointer none, .int .i64 from_, .int .i64 to_] w (fun v w' => v = .int .i64 1 ∧ Fr No w w') := by
  refine call_sound T_ok fun_offs_Table_Drop rfl (by kernel_rfl) rfl ?_
  refine NewC_blk (fun b w1 hb h1 f1 _ => ?_)
  refine LdC_blk h1 rfl ?_
  refine CallC_intro (row_nil _ _ w1) (fun v w3 ⟨hv, f3⟩ => ?_)
  subst hv
  exact ⟨rfl, f1.no f3⟩

theorem awake6_spec (w : World) : CallC Pr f_gleanerlaw06_awake [] w (fun v w' => v = .bool true ∧ Fr No w w') := by
  refine call_sound T_ok fun_gleanerlaw06_awake rfl (by kernel_rfl) rfl ?_
  refine CallC_intro (small6_spec w) (fun v w1 ⟨hv, f1⟩ => ?_)
  subst hv
  refine CallC_intro (offs_New_spec 256 64 8 4 32 192 w1 (by omega) (by omega) (by omega) (by decide)) (fun v w2 ⟨b, r, hv, h2, f2, hb, hr⟩ => ?_)
  subst hv
  refine CallC_intro (Put_spec 0 5 w2 h2 (by omega) (by omega) (by omega) (by omega)) (fun v w3 ⟨hv, ⟨bk3, h3, l3, q3⟩, f3⟩ => ?_)
  subst hv
  refine CallC_intro (Put_spec 5 20 w3 h3 (by omega) (by omega) (by omega) (by omega)) (fun v w4 ⟨hv, ⟨bk4, h4, l4, q4⟩, f4⟩ => ?_)
  subst hv
  have n3 : bk3.length = 32 := by rw [l3]; rfl
  have e3 : bk4[(3 : Int).toNat]? = some 20 := by
    rw [show (3 : Int).toNat = 3 from rfl, q4 3 (by omega), if_pos (by omega)]; rfl
  have e4 : bk4[(4 : Int).toNat]? = some 0 := by
    rw [show (4 : Int).toNat = 4 from rfl, q4 4 (by omega), if_neg (by omega), q3 4 (by rw [List.length_replicate]; decide), if_neg (by omega)]; rfl
  refine CallC_intro (First_in 3 20 w4 h4 (by omega) e3 (by omega)) (fun v w5 ⟨hv, f5⟩ => ?_)
  subst hv
  refine CallC_intro (First_in 4 0 w5 (h4.keep f5 id id) (by omega) e4 (by omega)) (fun v w6 ⟨hv, f6⟩ => ?_)
  subst hv
  have fn : Fr No w2 w6 → Fr No w w6 := fun g => (f1.no f2).no g
  refine ⟨rfl, ?_⟩
  have f34 : Fr (· = r) w2 w4 := f3.same f4
  exact (((f1.no f2).new f34 (fun _ _ e => e) (fun k e => by have := f1.size; omega)).no f5).no f6
theorem OffsNil_spec (a b c : Int) (w : World) : CallC Pr f_gleanerlaw06_OffsNil [.agg #[.int .i64 a, .int .i64 b, .int .i64 c]] w (fun v w' => v = .bool true ∧ Fr No w w') := by
  refine call_sound T_ok fun_gleanerlaw06_OffsNil rfl (by kernel_rfl) rfl ?_
  refine NewC_blk (fun p w1 hp h1 f1 _ => ?_)
  refine CallC_intro (awake6_spec w1) (fun v w2 ⟨hv, f2⟩ => ?_)
  subst hv
  have h1 := h1.keep f2 id
  have f2 := f1.no f2
  refine LdC_blk h1 rfl ?_
  refine CallC_intro (First_nil _ w2) (fun v w3 ⟨hv, f3⟩ => ?_)
  subst hv
  have h1 := h1.keep f3 id
  have f3 := f2.no f3
  refine LdC_blk h1 rfl ?_
  refine LdC_blk h1 rfl ?_
  refine CallC_intro (Put_nil _ _ w3) (fun v w4 ⟨hv, f4⟩ => ?_)
  subst hv
  have h1 := h1.keep f4 id
  have f4 := f3.no f4
  refine LdC_blk h1 rfl ?_
  refine LdC_blk h1 rfl ?_
  refine CallC_intro (Drop_nil _ _ w4) (fun v w5 ⟨hv, f5⟩ => ?_)
  subst hv
  exact ⟨rfl, f4.no f5⟩
end Go.Proofs.Ytilhoimokegpjaa
