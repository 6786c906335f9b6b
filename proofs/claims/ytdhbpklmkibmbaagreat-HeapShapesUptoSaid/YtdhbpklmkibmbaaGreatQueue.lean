/- Layers 10 and 11 (queue, remset): what is new. -/
import Derived.Test.YtdhbpklmkibmbaaGreatVcT
import Derived.Test.YtdhbpklmkibmbaaGreatVcI
namespace Go.Proofs.YtdhbpklmkibmbaaGreat
open Go.Vc

theorem queue_New_spec (n m : Int) (w : World) (h0 : 1 ≤ n) (h1 : n ≤ 64) (h2 : 0 ≤ m) (h3 : m ≤ 65536) : CallC Pr f_queue_New [.int .i64 n, .int .i64 m] w
    (fun v w' => ∃ b r, v = .tuple #[.pointer (some ⟨b, 0, none⟩), .int .i64 0] ∧ Blk w' b t_queue_Queue [.int .i64 m, .slice none 0 0, .slice (some ⟨r, 0, none⟩) n.toNat n.toNat] ∧
      Blk w' r t_s_int (List.replicate n.toNat (.slice none 0 0)) ∧ Fr No w w' ∧ w.heap.size ≤ b ∧ w.heap.size ≤ r ∧ b ≠ r) := by
  refine call_sound T_ok fun_queue_New rfl (by kernel_rfl) rfl (Kp ?_)
  refine Br_df (show ¬ n < 1 by omega) ?_
  refine Br_df (show ¬ n > 64 by omega) ?_
  refine Br_df (show ¬ m < 0 by omega) ?_
  refine Br_df (show ¬ m > 65536 by omega) ?_
  refine MkC T_ok (z := .slice none 0 0) rfl rfl rfl rfl (n := n) (by omega) (by omega) (show (24 : Int) * n ≤ _ by omega) (fun r w2 hr h2 f2 s2 => ?_)
  refine NewC_blk (fun b w3 hb h3 f3 s3 => ?_)
  have s2' := f2.size
  exact ⟨b, r, rfl, h3, h2.keep f3 id, f2.no f3, by omega, by omega, by omega⟩
/-- Sets at b, with three maps. -/
structure IsSets (w : World) (b m1 m2 m3 : Nat) (n per : Int) : Prop where
  tab : Blk w b t_remset_Sets [.int .i64 n, .int .i64 per, .map (some m1), .map (some m2), .map (some m3)]
  ne : m1 ≠ m2 ∧ m1 ≠ m3 ∧ m2 ≠ m3
def mapsP : Plan := (.take 0 (.take 1 (.take 2 (.take 3 (.take 4 (.take 5 (.take 6 (.alt 7 (.alt 8 (.alt 9 (.take 10 (.alt 11 (.take 12 (.take 13 .done)) .stop)) .stop) (.alt 9 (.alt 8 (.take 10 (.alt 11 (.take 12 (.take 13 .done)) .stop)) .stop) .stop)) (.alt 8 (.alt 7 (.alt 9 (.take 10 (.alt 11 (.take 12 (.take 13 .done)) .stop)) .stop) (.alt 9 (.alt 7 (.take 10 (.alt 11 (.take 12 (.take 13 .done)) .stop)) .stop) .stop)) (.alt 9 (.alt 7 (.alt 8 (.take 10 (.alt 11 (.take 12 (.take 13 .done)) .stop)) .stop) (.alt 8 (.alt 7 (.take 10 (.alt 11 (.take 12 (.take 13 .done)) .stop)) .stop) .stop)) .stop))))))))))
theorem remset_New_spec (a0 a1 a2 a3 a4 a5 : Int) (w : World) (h3 : 1 ≤ a3) (h3' : a3 ≤ 65536) (h2 : 1 ≤ a2) (h1 : 1 ≤ a1) (hq : a1 ≤ 4194304 / a3) (hm : a1 % a2 = 0) (h0 : a0 = a3 * a1) (h0' : a0 ≤ 4194304) (h4 : a4 = a0 / a2) :
    CallC Pr f_remset_New [.agg #[.int .i64 a0, .int .i64 a1, .int .i64 a2, .int .i64 a3, .int .i64 a4, .int .i64 a5]] w
      (fun v w' => ∃ b m1 m2 m3, v = .tuple #[.pointer (some ⟨b, 0, none⟩), .int .i64 0] ∧ IsSets w' b m1 m2 m3 a3 (a1 / a2) ∧ MapAt w' m1 #[] 0 ∧ MapAt w' m2 #[] 0 ∧ MapAt w' m3 #[] 0 ∧ Fr No w w' ∧
        w.heap.size ≤ b ∧ w.heap.size ≤ m1 ∧ w.heap.size ≤ m2 ∧ w.heap.size ≤ m3) := by
  refine call_sound T_ok fun_remset_New rfl (by kernel_rfl) rfl (Kp ?_)
  refine NewC_blk (fun b w1 hb hb1 f1 _ => ?_)
  have b0 : 0 ≤ a0 := by rw [h0]; exact Int.mul_nonneg (by omega) (by omega)
  have e1 : IntKind.i64.wrap (Int.tdiv 4194304 a3) = 4194304 / a3 := by
    have := Int.ediv_nonneg (a := 4194304) (b := a3) (by omega) (by omega)
    have := Int.ediv_le_self (a := 4194304) a3 (by omega)
    rw [tdiv_eq (by omega), wrap_i64 (by omega) (by omega)]
  have hq' : 4194304 / a3 ≤ 4194304 := Int.ediv_le_self a3 (by omega)
  have e2 : Int.tmod a1 a2 = 0 := by rw [tmod_eq (by omega), hm]
  have e3 : IntKind.i64.wrap (a3 * a1) = a0 := by rw [← h0]; exact wrap_i64 (by omega) (by omega)
  have e4 : IntKind.i64.wrap (Int.tdiv a0 a2) = a4 := by
    have := Int.ediv_nonneg (a := a0) (b := a2) (by omega) (by omega)
    have := Int.ediv_le_self (a := a0) a2 (by omega)
    rw [tdiv_eq (by omega), wrap_i64 (by omega) (by omega), h4]
  have e5 : IntKind.i64.wrap (Int.tdiv a1 a2) = a1 / a2 := by
    have := Int.ediv_nonneg (a := a1) (b := a2) (by omega) (by omega)
    have := Int.ediv_le_self (a := a1) a2 (by omega)
    rw [tdiv_eq (by omega), wrap_i64 (by omega) (by omega)]
  refine AnyC_lex T_ok mixed (by kernel_rfl) (by kernel_rfl) ?_
  refine LdS_blk hb1 rfl ?_
  refine Br_df (show ¬ a3 < 1 by omega) ?_
  refine LdS_blk hb1 rfl ?_
  refine Br_df (show ¬ a3 > 65536 by omega) ?_
  refine LdS_blk hb1 rfl ?_
  refine Br_df (show ¬ a2 < 1 by omega) ?_
  refine LdS_blk hb1 rfl ?_
  refine Br_df (show ¬ a1 < 1 by omega) ?_
  refine LdS_blk hb1 rfl ?_
  refine LdS_blk hb1 rfl ?_
  refine Sd_intro (by omega) ?_
  refine Br_df (show ¬ a1 > IntKind.i64.wrap (Int.tdiv 4194304 a3) by omega) ?_
  refine LdS_blk hb1 rfl ?_
  refine LdS_blk hb1 rfl ?_
  refine Sd_intro (by omega) ?_
  refine Br_nf e2 ?_
  refine LdS_blk hb1 rfl ?_
  refine LdS_blk hb1 rfl ?_
  refine LdS_blk hb1 rfl ?_
  refine Br_nf e3.symm ?_
  refine LdS_blk hb1 rfl ?_
  refine LdS_blk hb1 rfl ?_
  refine LdS_blk hb1 rfl ?_
  refine Sd_intro (by omega) ?_
  refine Br_nf e4.symm ?_
  refine AnyC_plan T_ok mixed mapsP (Old w1.drew.drew) (by kernel_rfl) (by kernel_rfl) (fun _ _ => rfl) (Kp ?_)
  have hb2 : Blk w1.drew.drew b t_geom_Geom [.int .i64 a0, .int .i64 a1, .int .i64 a2, .int .i64 a3, .int .i64 a4, .int .i64 a5] := hb1
  refine LdS_blk hb2 rfl ?_
  refine LdS_blk hb2 rfl ?_
  refine LdS_blk hb2 rfl ?_
  refine Sd_intro (by omega) ?_
  have fin : ∀ (t : Nat) (w5 : World) (m7 m8 m9 : Nat), Blk w5 t t_remset_Sets [.int .i64 a3, .int .i64 (IntKind.i64.wrap (Int.tdiv a1 a2)), .map (some m7), .map (some m8), .map (some m9)] → m7 ≠ m8 → m7 ≠ m9 → m8 ≠ m9 →
      w.heap.size ≤ t → w.heap.size ≤ m7 → w.heap.size ≤ m8 → w.heap.size ≤ m9 → Fr No w1.drew.drew w5 → MapAt w5 m7 #[] 0 → MapAt w5 m8 #[] 0 → MapAt w5 m9 #[] 0 →
      ∃ b m1 m2 m3, Value.tuple #[.pointer (some ⟨t, 0, none⟩), .int .i64 0] = .tuple #[.pointer (some ⟨b, 0, none⟩), .int .i64 0] ∧ IsSets w5 b m1 m2 m3 a3 (a1 / a2) ∧ MapAt w5 m1 #[] 0 ∧ MapAt w5 m2 #[] 0 ∧ MapAt w5 m3 #[] 0 ∧ Fr No w w5 ∧
        w.heap.size ≤ b ∧ w.heap.size ≤ m1 ∧ w.heap.size ≤ m2 ∧ w.heap.size ≤ m3 := by
    intro t w5 m7 m8 m9 H n1 n2 n3 k1 k2 k3 k4 F A B C
    rw [e5] at H
    exact ⟨t, m7, m8, m9, rfl, ⟨H, n1, n2, n3⟩, A, B, C, ((f1.no (Fr.drew w1)).no (Fr.drew _)).no F, k1, k2, k3, k4⟩
  have s1 := f1.size
  have sd : w1.drew.drew.heap.size = w1.heap.size := rfl
  refine ⟨?_, ?_⟩
  · refine NewC_map (fun m7 v7 e7 M7 g7 s7 => ?_)
    refine Sd_intro g7.old ?_
    refine ⟨?_, ?_⟩
    · refine NewC_map (fun m8 v8 e8 M8 g8 s8 => ?_)
      refine Sd_intro (g7.no g8).old ?_
      refine ⟨?_, ?_⟩
      · refine NewC_map (fun m9 v9 e9 M9 g9 s9 => ?_)
        refine Sd_intro ((g7.no g8).no g9).old ?_
        refine ⟨?_, trivial⟩
        refine NewC_blk (fun t w5 ht h5 f5 _ => ?_)
        have F5 : Fr No w1.drew.drew w5 := (((g7.no g8).no g9)).no f5
        refine Sd_intro F5.old ?_
        exact fin t w5 m7 m8 m9 h5 (by omega) (by omega) (by omega) (by omega) (by omega) (by omega) (by omega) F5 (M7.keep ((g8.no g9).no f5) id) (M8.keep (g9.no f5) id) (M9.keep (f5) id)
      exact trivial
    refine ⟨?_, ?_⟩
    · refine NewC_map (fun m9 v9 e9 M9 g9 s9 => ?_)
      refine Sd_intro (g7.no g9).old ?_
      refine ⟨?_, ?_⟩
      · refine NewC_map (fun m8 v8 e8 M8 g8 s8 => ?_)
        refine Sd_intro ((g7.no g9).no g8).old ?_
        refine ⟨?_, trivial⟩
        refine NewC_blk (fun t w5 ht h5 f5 _ => ?_)
        have F5 : Fr No w1.drew.drew w5 := (((g7.no g9).no g8)).no f5
        refine Sd_intro F5.old ?_
        exact fin t w5 m7 m8 m9 h5 (by omega) (by omega) (by omega) (by omega) (by omega) (by omega) (by omega) F5 (M7.keep ((g9.no g8).no f5) id) (M8.keep (f5) id) (M9.keep (g8.no f5) id)
      exact trivial
    exact trivial
  refine ⟨?_, ?_⟩
  · refine NewC_map (fun m8 v8 e8 M8 g8 s8 => ?_)
    refine Sd_intro g8.old ?_
    refine ⟨?_, ?_⟩
    · refine NewC_map (fun m7 v7 e7 M7 g7 s7 => ?_)
      refine Sd_intro (g8.no g7).old ?_
      refine ⟨?_, ?_⟩
      · refine NewC_map (fun m9 v9 e9 M9 g9 s9 => ?_)
        refine Sd_intro ((g8.no g7).no g9).old ?_
        refine ⟨?_, trivial⟩
        refine NewC_blk (fun t w5 ht h5 f5 _ => ?_)
        have F5 : Fr No w1.drew.drew w5 := (((g8.no g7).no g9)).no f5
        refine Sd_intro F5.old ?_
        exact fin t w5 m7 m8 m9 h5 (by omega) (by omega) (by omega) (by omega) (by omega) (by omega) (by omega) F5 (M7.keep (g9.no f5) id) (M8.keep ((g7.no g9).no f5) id) (M9.keep (f5) id)
      exact trivial
    refine ⟨?_, ?_⟩
    · refine NewC_map (fun m9 v9 e9 M9 g9 s9 => ?_)
      refine Sd_intro (g8.no g9).old ?_
      refine ⟨?_, ?_⟩
      · refine NewC_map (fun m7 v7 e7 M7 g7 s7 => ?_)
        refine Sd_intro ((g8.no g9).no g7).old ?_
        refine ⟨?_, trivial⟩
        refine NewC_blk (fun t w5 ht h5 f5 _ => ?_)
        have F5 : Fr No w1.drew.drew w5 := (((g8.no g9).no g7)).no f5
        refine Sd_intro F5.old ?_
        exact fin t w5 m7 m8 m9 h5 (by omega) (by omega) (by omega) (by omega) (by omega) (by omega) (by omega) F5 (M7.keep (f5) id) (M8.keep ((g9.no g7).no f5) id) (M9.keep (g7.no f5) id)
      exact trivial
    exact trivial
  refine ⟨?_, ?_⟩
  · refine NewC_map (fun m9 v9 e9 M9 g9 s9 => ?_)
    refine Sd_intro g9.old ?_
    refine ⟨?_, ?_⟩
    · refine NewC_map (fun m7 v7 e7 M7 g7 s7 => ?_)
      refine Sd_intro (g9.no g7).old ?_
      refine ⟨?_, ?_⟩
      · refine NewC_map (fun m8 v8 e8 M8 g8 s8 => ?_)
        refine Sd_intro ((g9.no g7).no g8).old ?_
        refine ⟨?_, trivial⟩
        refine NewC_blk (fun t w5 ht h5 f5 _ => ?_)
        have F5 : Fr No w1.drew.drew w5 := (((g9.no g7).no g8)).no f5
        refine Sd_intro F5.old ?_
        exact fin t w5 m7 m8 m9 h5 (by omega) (by omega) (by omega) (by omega) (by omega) (by omega) (by omega) F5 (M7.keep (g8.no f5) id) (M8.keep (f5) id) (M9.keep ((g7.no g8).no f5) id)
      exact trivial
    refine ⟨?_, ?_⟩
    · refine NewC_map (fun m8 v8 e8 M8 g8 s8 => ?_)
      refine Sd_intro (g9.no g8).old ?_
      refine ⟨?_, ?_⟩
      · refine NewC_map (fun m7 v7 e7 M7 g7 s7 => ?_)
        refine Sd_intro ((g9.no g8).no g7).old ?_
        refine ⟨?_, trivial⟩
        refine NewC_blk (fun t w5 ht h5 f5 _ => ?_)
        have F5 : Fr No w1.drew.drew w5 := (((g9.no g8).no g7)).no f5
        refine Sd_intro F5.old ?_
        exact fin t w5 m7 m8 m9 h5 (by omega) (by omega) (by omega) (by omega) (by omega) (by omega) (by omega) F5 (M7.keep (f5) id) (M8.keep (g7.no f5) id) (M9.keep ((g8.no g7).no f5) id)
      exact trivial
    exact trivial
  exact trivial
end Go.Proofs.YtdhbpklmkibmbaaGreat
