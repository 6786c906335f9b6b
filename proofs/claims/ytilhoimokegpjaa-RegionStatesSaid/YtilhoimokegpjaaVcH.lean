/- Whole numbers of a width, and lists of cells. -/
import Derived.Test.YtilhoimokegpjaaVcG
namespace Go.Vc

theorem wrap_i64 {n : Int} (h1 : -9223372036854775808 ≤ n) (h2 : n ≤ 9223372036854775807) : IntKind.i64.wrap n = n := by
  have e : IntKind.i64.wrap n = if 9223372036854775808 ≤ n % 18446744073709551616 then n % 18446744073709551616 - 18446744073709551616 else n % 18446744073709551616 := by simp [IntKind.wrap, IntKind.bits, IntKind.signed]
  rw [e]
  split <;> omega
theorem wrap_i32 {n : Int} (h1 : -2147483648 ≤ n) (h2 : n ≤ 2147483647) : IntKind.i32.wrap n = n := by
  have e : IntKind.i32.wrap n = if 2147483648 ≤ n % 4294967296 then n % 4294967296 - 4294967296 else n % 4294967296 := by simp [IntKind.wrap, IntKind.bits, IntKind.signed]
  rw [e]
  split <;> omega
theorem wrap_u64 {n : Int} (h1 : 0 ≤ n) (h2 : n ≤ 18446744073709551615) : IntKind.u64.wrap n = n := by
  simp only [IntKind.wrap, IntKind.bits, IntKind.signed]
  simp; omega
theorem wrap_u32 {n : Int} (h1 : 0 ≤ n) (h2 : n ≤ 4294967295) : IntKind.u32.wrap n = n := by
  simp only [IntKind.wrap, IntKind.bits, IntKind.signed]
  simp; omega
theorem wrap_u8 {n : Int} (h1 : 0 ≤ n) (h2 : n ≤ 255) : IntKind.u8.wrap n = n := by
  simp only [IntKind.wrap, IntKind.bits, IntKind.signed]
  simp; omega
theorem tdiv_eq {a b : Int} (h : 0 ≤ a) : a.tdiv b = a / b := Int.tdiv_eq_ediv_of_nonneg h
theorem tmod_eq {a b : Int} (h : 0 ≤ a) : a.tmod b = a % b := Int.tmod_eq_emod_of_nonneg h

theorem shl_i64 (x : Int) {n : Nat} (h : n ≤ 64) : shiftV .shl .i64 x n = IntKind.i64.wrap (x * 2 ^ n) := by
  unfold shiftV
  rw [show IntKind.i64.bits = 64 from rfl, Nat.min_eq_left h]
theorem shr_i64 (x : Int) {n : Nat} (h : n ≤ 64) : shiftV .shr .i64 x n = x / 2 ^ n := by
  unfold shiftV
  rw [show IntKind.i64.bits = 64 from rfl, Nat.min_eq_left h]
  exact Int.fdiv_eq_ediv_of_nonneg x (Int.pow_nonneg (by omega))
/-- A made slice. -/
theorem makeSlice_run {P : Program} {T : Tab} (hT : T.Ok P) {t e : Nat} {q : Rec} {z : Value} (ht : T.d t = .slice e) (hq : look T.recs e = some q) (hz : q.zero = [z]) (h1 : q.size = 1) (w : World) (n : Int)
    (h0 : 0 ≤ n) (h2 : n ≤ 281474976710656) (hb : q.bytes * n ≤ 281474976710656) :
    (Instr.makeSlice t (.int .i64 n) (.int .i64 n)).run P w = .ok (.slice (some ⟨w.heap.size, 0, none⟩) n.toNat n.toNat) (w.alloc (.cells (List.replicate n.toNat z).toArray e)) := by
  obtain ⟨_, i, zv, hi, hs, hby, hzv, hc⟩ := hT.recs e q hq
  have hw : IntKind.i64.wrap n = n := wrap_i64 (by omega) (by omega)
  have c1 : ¬ n < 0 := by omega
  have c2 : ¬ 281474976710656 < (q.bytes : Int) * n := by omega
  have hcells : zv.cells = #[z] := by apply Array.toList_inj.1; rw [hc, hz]
  simp only [Instr.makeSlice, Sem.run_bind, run_underlying (und_slice hT ht), Result.andThen_ok, asInt, asIntOf, Sem.run_pure, typeInfo, run_program, hi, hby, hw]
  simp only [c1, c2, decide_false, Bool.or_false, show ¬ n < n from by omega, show ((2 : Int) ^ 48) = 281474976710656 from by decide, Bool.false_eq_true, if_false]
  simp only [Sem.run_bind, run_askRoom, Result.andThen_ok, sizeOf, typeInfo, run_program, hi, Sem.run_pure, hs, h1, Nat.mul_one, newRow]
  by_cases hn : n.toNat = 0
  · have hz0 : ∀ f : Nat → Value, Array.map f (Array.range 0) = #[] := fun f => Array.toList_inj.1 (by simp only [Array.toList_map, Array.toList_range, List.range_zero, List.map_nil])
    simp only [hn, if_true, Sem.run_bind, Sem.run_pure, Result.andThen_ok, List.replicate_zero, hz0, run_newObj]
    rfl
  · simp only [hn, if_false, Sem.run_bind, zeroValue, typeInfo, run_program, hi, hzv, Sem.run_pure, Result.andThen_ok, hcells]
    have : (Array.range n.toNat).map (fun x => (#[z] : Array Value)[x % (#[z] : Array Value).size]!) = (List.replicate n.toNat z).toArray := by
      apply Array.toList_inj.1
      simp only [Array.toList_map, Array.toList_range]
      apply List.ext_getElem
      · simp
      · intro k h1 h2; simp [Nat.mod_one]
    rw [this]
    rfl
theorem MkC {P : Program} {T : Tab} (hT : T.Ok P) {t e : Nat} {q : Rec} {z : Value} (ht : T.d t = .slice e) (hq : look T.recs e = some q) (hz : q.zero = [z]) (h1 : q.size = 1) {w : World} {n : Int} {K : Value → World → Prop}
    (h0 : 0 ≤ n) (h2 : n ≤ 281474976710656) (hb : q.bytes * n ≤ 281474976710656)
    (k : ∀ b w', b = w.heap.size → Blk w' b e (List.replicate n.toNat z) → Fr No w w' → w'.heap.size = b + 1 → K (.slice (some ⟨b, 0, none⟩) n.toNat n.toNat) w') :
    RunC P (Instr.makeSlice t (.int .i64 n) (.int .i64 n)) w K :=
  RunC_intro (makeSlice_run hT ht hq hz h1 w n h0 h2 hb) (k _ _ rfl (by unfold Blk; exact NewC_blk.heap_new w _) ⟨rfl, rfl, rfl, by simp, fun k hk _ => RowKit.Below.heap_alloc w _ k hk⟩ (by simp))
/-- A made slice of structs. -/
theorem makeSlice_runN {P : Program} {T : Tab} (hT : T.Ok P) {t e : Nat} {q : Rec} (ht : T.d t = .slice e) (hq : look T.recs e = some q) (w : World) (n : Int)
    (h0 : 0 ≤ n) (h2 : n ≤ 281474976710656) (hb : q.bytes * n ≤ 281474976710656) (hpos : n.toNat * q.size ≠ 0) :
    (Instr.makeSlice t (.int .i64 n) (.int .i64 n)).run P w = .ok (.slice (some ⟨w.heap.size, 0, none⟩) n.toNat n.toNat) (w.alloc (.cells (zerosR (n.toNat * q.size) q.zero).toArray e)) := by
  obtain ⟨_, i, zv, hi, hs, hby, hzv, hc⟩ := hT.recs e q hq
  have hw : IntKind.i64.wrap n = n := wrap_i64 (by omega) (by omega)
  have c1 : ¬ n < 0 := by omega
  have c2 : ¬ 281474976710656 < (q.bytes : Int) * n := by omega
  have hcells : zv.cells = q.zero.toArray := by apply Array.toList_inj.1; rw [hc]
  simp only [Instr.makeSlice, Sem.run_bind, run_underlying (und_slice hT ht), Result.andThen_ok, asInt, asIntOf, Sem.run_pure, typeInfo, run_program, hi, hby, hw]
  simp only [c1, c2, decide_false, Bool.or_false, show ¬ n < n from by omega, show ((2 : Int) ^ 48) = 281474976710656 from by decide, Bool.false_eq_true, if_false]
  simp only [Sem.run_bind, run_askRoom, Result.andThen_ok, sizeOf, typeInfo, run_program, hi, Sem.run_pure, hs, newRow]
  simp only [hpos, if_false, Sem.run_bind, zeroValue, typeInfo, run_program, hi, hzv, Sem.run_pure, Result.andThen_ok, hcells]
  have : (Array.range (n.toNat * q.size)).map (fun x => q.zero.toArray[x % q.zero.toArray.size]!) = (zerosR (n.toNat * q.size) q.zero).toArray := by
    apply Array.toList_inj.1
    simp only [zerosR, Array.toList_map, Array.toList_range]
  rw [this]
  rfl
theorem MkN {P : Program} {T : Tab} (hT : T.Ok P) {t e : Nat} {q : Rec} (ht : T.d t = .slice e) (hq : look T.recs e = some q) {w : World} {n : Int} {K : Value → World → Prop}
    (h0 : 0 ≤ n) (h2 : n ≤ 281474976710656) (hb : q.bytes * n ≤ 281474976710656) (hpos : n.toNat * q.size ≠ 0)
    (k : ∀ b w', b = w.heap.size → Blk w' b e (zerosR (n.toNat * q.size) q.zero) → Fr No w w' → w'.heap.size = b + 1 → K (.slice (some ⟨b, 0, none⟩) n.toNat n.toNat) w') :
    RunC P (Instr.makeSlice t (.int .i64 n) (.int .i64 n)) w K :=
  RunC_intro (makeSlice_runN hT ht hq w n h0 h2 hb hpos) (k _ _ rfl (by unfold Blk; exact NewC_blk.heap_new w _) ⟨rfl, rfl, rfl, by simp, fun k hk _ => RowKit.Below.heap_alloc w _ k hk⟩ (by simp))
end Go.Vc
