/- Whole numbers of a width, and lists of cells. -/
import Derived.Test.YtdhbpklmkibmbaaGreatVcG
import Derived.Maps.AppendAt
namespace Go.Vc

theorem wrap_i64 {n : Int} (h1 : -9223372036854775808 ≤ n) (h2 : n ≤ 9223372036854775807) : IntKind.i64.wrap n = n := by
  have e : IntKind.i64.wrap n = if 9223372036854775808 ≤ n % 18446744073709551616 then n % 18446744073709551616 - 18446744073709551616 else n % 18446744073709551616 := by simp [IntKind.wrap, IntKind.bits, IntKind.signed]
  rw [e]
  split <;> omega
theorem wrap_i32 {n : Int} (h1 : -2147483648 ≤ n) (h2 : n ≤ 2147483647) : IntKind.i32.wrap n = n := by
  have e : IntKind.i32.wrap n = if 2147483648 ≤ n % 4294967296 then n % 4294967296 - 4294967296 else n % 4294967296 := by simp [IntKind.wrap, IntKind.bits, IntKind.signed]
  rw [e]
  split <;> omega
theorem wrap_u64 {n : Int} (h1 : 0 ≤ n) (h2 : n ≤ 18446744073709551615) : IntKind.u64.wrap n = n := by
  simp only [IntKind.wrap, IntKind.bits, IntKind.signed]
  simp; omega
theorem wrap_u32 {n : Int} (h1 : 0 ≤ n) (h2 : n ≤ 4294967295) : IntKind.u32.wrap n = n := by
  simp only [IntKind.wrap, IntKind.bits, IntKind.signed]
  simp; omega
theorem wrap_u8 {n : Int} (h1 : 0 ≤ n) (h2 : n ≤ 255) : IntKind.u8.wrap n = n := by
  simp only [IntKind.wrap, IntKind.bits, IntKind.signed]
  simp; omega
theorem tdiv_eq {a b : Int} (h : 0 ≤ a) : a.tdiv b = a / b := Int.tdiv_eq_ediv_of_nonneg h
theorem tmod_eq {a b : Int} (h : 0 ≤ a) : a.tmod b = a % b := Int.tmod_eq_emod_of_nonneg h

theorem shl_i64 (x : Int) {n : Nat} (h : n ≤ 64) : shiftV .shl .i64 x n = IntKind.i64.wrap (x * 2 ^ n) := by
  unfold shiftV
  rw [show IntKind.i64.bits = 64 from rfl, Nat.min_eq_left h]
theorem shr_i64 (x : Int) {n : Nat} (h : n ≤ 64) : shiftV .shr .i64 x n = x / 2 ^ n := by
  unfold shiftV
  rw [show IntKind.i64.bits = 64 from rfl, Nat.min_eq_left h]
  exact Int.fdiv_eq_ediv_of_nonneg x (Int.pow_nonneg (by omega))
/-- A made slice. -/
theorem makeSlice_run {P : Program} {T : Tab} (hT : T.Ok P) {t e : Nat} {q : Rec} {z : Value} (ht : T.d t = .slice e) (hq : look T.recs e = some q) (hz : q.zero = [z]) (h1 : q.size = 1) (w : World) (n : Int)
    (h0 : 0 ≤ n) (h2 : n ≤ 281474976710656) (hb : q.bytes * n ≤ 281474976710656) :
    (Instr.makeSlice t (.int .i64 n) (.int .i64 n)).run P w = .ok (.slice (some ⟨w.heap.size, 0, none⟩) n.toNat n.toNat) (w.alloc (.cells (List.replicate n.toNat z).toArray e)) := by
  obtain ⟨_, i, zv, hi, hs, hby, hzv, hc⟩ := hT.recs e q hq
  have hw : IntKind.i64.wrap n = n := wrap_i64 (by omega) (by omega)
  have c1 : ¬ n < 0 := by omega
  have c2 : ¬ 281474976710656 < (q.bytes : Int) * n := by omega
  have hcells : zv.cells = #[z] := by apply Array.toList_inj.1; rw [hc, hz]
  simp only [Instr.makeSlice, Sem.run_bind, run_underlying (und_slice hT ht), Result.andThen_ok, asInt, asIntOf, Sem.run_pure, typeInfo, run_program, hi, hby, hw]
  simp only [c1, c2, decide_false, Bool.or_false, show ¬ n < n from by omega, show ((2 : Int) ^ 48) = 281474976710656 from by decide, Bool.false_eq_true, if_false]
  simp only [Sem.run_bind, run_askRoom, Result.andThen_ok, sizeOf, typeInfo, run_program, hi, Sem.run_pure, hs, h1, Nat.mul_one, newRow]
  by_cases hn : n.toNat = 0
  · have hz0 : ∀ f : Nat → Value, Array.map f (Array.range 0) = #[] := fun f => Array.toList_inj.1 (by simp only [Array.toList_map, Array.toList_range, List.range_zero, List.map_nil])
    simp only [hn, if_true, Sem.run_bind, Sem.run_pure, Result.andThen_ok, List.replicate_zero, hz0, run_newObj]
    rfl
  · simp only [hn, if_false, Sem.run_bind, zeroValue, typeInfo, run_program, hi, hzv, Sem.run_pure, Result.andThen_ok, hcells]
    have : (Array.range n.toNat).map (fun x => (#[z] : Array Value)[x % (#[z] : Array Value).size]!) = (List.replicate n.toNat z).toArray := by
      apply Array.toList_inj.1
      simp only [Array.toList_map, Array.toList_range]
      apply List.ext_getElem
      · simp
      · intro k h1 h2; simp [Nat.mod_one]
    rw [this]
    rfl
theorem MkC {P : Program} {T : Tab} (hT : T.Ok P) {t e : Nat} {q : Rec} {z : Value} (ht : T.d t = .slice e) (hq : look T.recs e = some q) (hz : q.zero = [z]) (h1 : q.size = 1) {w : World} {n : Int} {K : Value → World → Prop}
    (h0 : 0 ≤ n) (h2 : n ≤ 281474976710656) (hb : q.bytes * n ≤ 281474976710656)
    (k : ∀ b w', b = w.heap.size → Blk w' b e (List.replicate n.toNat z) → Fr No w w' → w'.heap.size = b + 1 → K (.slice (some ⟨b, 0, none⟩) n.toNat n.toNat) w') :
    RunC P (Instr.makeSlice t (.int .i64 n) (.int .i64 n)) w K :=
  RunC_intro (makeSlice_run hT ht hq hz h1 w n h0 h2 hb) (k _ _ rfl (by unfold Blk; exact NewC_blk.heap_new w _) ⟨rfl, rfl, rfl, by simp, fun k hk _ => RowKit.Below.heap_alloc w _ k hk⟩ (by simp))
/-- A made slice of structs. -/
theorem makeSlice_runN {P : Program} {T : Tab} (hT : T.Ok P) {t e : Nat} {q : Rec} (ht : T.d t = .slice e) (hq : look T.recs e = some q) (w : World) (n : Int)
    (h0 : 0 ≤ n) (h2 : n ≤ 281474976710656) (hb : q.bytes * n ≤ 281474976710656) (hpos : n.toNat * q.size ≠ 0) :
    (Instr.makeSlice t (.int .i64 n) (.int .i64 n)).run P w = .ok (.slice (some ⟨w.heap.size, 0, none⟩) n.toNat n.toNat) (w.alloc (.cells (zerosR (n.toNat * q.size) q.zero).toArray e)) := by
  obtain ⟨_, i, zv, hi, hs, hby, hzv, hc⟩ := hT.recs e q hq
  have hw : IntKind.i64.wrap n = n := wrap_i64 (by omega) (by omega)
  have c1 : ¬ n < 0 := by omega
  have c2 : ¬ 281474976710656 < (q.bytes : Int) * n := by omega
  have hcells : zv.cells = q.zero.toArray := by apply Array.toList_inj.1; rw [hc]
  simp only [Instr.makeSlice, Sem.run_bind, run_underlying (und_slice hT ht), Result.andThen_ok, asInt, asIntOf, Sem.run_pure, typeInfo, run_program, hi, hby, hw]
  simp only [c1, c2, decide_false, Bool.or_false, show ¬ n < n from by omega, show ((2 : Int) ^ 48) = 281474976710656 from by decide, Bool.false_eq_true, if_false]
  simp only [Sem.run_bind, run_askRoom, Result.andThen_ok, sizeOf, typeInfo, run_program, hi, Sem.run_pure, hs, newRow]
  simp only [hpos, if_false, Sem.run_bind, zeroValue, typeInfo, run_program, hi, hzv, Sem.run_pure, Result.andThen_ok, hcells]
  have : (Array.range (n.toNat * q.size)).map (fun x => q.zero.toArray[x % q.zero.toArray.size]!) = (zerosR (n.toNat * q.size) q.zero).toArray := by
    apply Array.toList_inj.1
    simp only [zerosR, Array.toList_map, Array.toList_range]
  rw [this]
  rfl
theorem MkN {P : Program} {T : Tab} (hT : T.Ok P) {t e : Nat} {q : Rec} (ht : T.d t = .slice e) (hq : look T.recs e = some q) {w : World} {n : Int} {K : Value → World → Prop}
    (h0 : 0 ≤ n) (h2 : n ≤ 281474976710656) (hb : q.bytes * n ≤ 281474976710656) (hpos : n.toNat * q.size ≠ 0)
    (k : ∀ b w', b = w.heap.size → Blk w' b e (zerosR (n.toNat * q.size) q.zero) → Fr No w w' → w'.heap.size = b + 1 → K (.slice (some ⟨b, 0, none⟩) n.toNat n.toNat) w') :
    RunC P (Instr.makeSlice t (.int .i64 n) (.int .i64 n)) w K :=
  RunC_intro (makeSlice_runN hT ht hq w n h0 h2 hb hpos) (k _ _ rfl (by unfold Blk; exact NewC_blk.heap_new w _) ⟨rfl, rfl, rfl, by simp, fun k hk _ => RowKit.Below.heap_alloc w _ k hk⟩ (by simp))
end Go.Vc
/- Slices: what is appended to, and what came in. -/
namespace Go.Vc

/-- A field of an element. -/
theorem LdC_idx2 {w : World} {b t o m n : Nat} {cs : List Value} {K : Value → Prop} {v : Value} (h : Blk w b t cs) (hc : cs[o + m + n]? = some v) (k : K v) : LdC w (((Addr.mk b o none).add m).add n) K := by
  rw [add_add']; exact LdC_blk h hc k
theorem LdS_idx2 {w : World} {b t o m n : Nat} {cs : List Value} {K : Value → Prop} {v : Value} (h : Blk w b t cs) (hc : cs[o + m + n]? = some v) (k : K v) : LdS (Old w) (((Addr.mk b o none).add m).add n) K := by
  rw [add_add']; exact LdS_blk h hc k
theorem StC_idx2 {w : World} {b t o m n : Nat} {cs : List Value} {K : World → Prop} {v u : Value} (h : Blk w b t cs) (h1 : v.oneCell' = true) (hc : cs[o + m + n]? = some u)
    (k : ∀ w', Blk w' b t (cs.set (o + m + n) v) → Fr (· = b) w w' → w'.heap.size = w.heap.size → K w') : StC w (((Addr.mk b o none).add m).add n) v K := by
  rw [add_add']; exact StC_blk h h1 hc k
/-- A slice of one's own, read and kept. -/
theorem own_cases {w : World} {base e size n : Nat} {v : Value} {xs : List Value} (h : w.ownsRow base e size v n xs) :
    (v = .slice none 0 0 ∧ n = 0 ∧ xs = []) ∨ ∃ g cap cur, v = .slice (some ⟨g, 0, none⟩) n cap ∧ base ≤ g ∧ Blk w g e cur ∧ cur.take (n * size) = xs ∧ n ≤ cap := by
  obtain ⟨hl, h | ⟨g, cap, cur, hv, hb, hc, hn, _, _, ht⟩⟩ := h
  · obtain ⟨rfl, rfl⟩ := h
    exact .inl ⟨rfl, rfl, List.eq_nil_of_length_eq_zero (by simpa using hl)⟩
  · exact .inr ⟨g, cap, cur.toList, hv, hb, by unfold Blk; rw [hc], ht, hn⟩
theorem own_slice {w : World} {base e size n : Nat} {v : Value} {xs : List Value} (h : w.ownsRow base e size v n xs) : ∃ a c, v = .slice a n c := by
  rcases own_cases h with ⟨rfl, rfl, _⟩ | ⟨g, cap, cur, rfl, _⟩
  · exact ⟨_, _, rfl⟩
  · exact ⟨_, _, rfl⟩
theorem own_keep {w w' : World} {base e size n : Nat} {v : Value} {xs : List Value} {F : Nat → Prop} (h : w.ownsRow base e size v n xs) (f : Fr F w w') (hF : ∀ k, base ≤ k → ¬ F k) : w'.ownsRow base e size v n xs := by
  obtain ⟨hl, h | ⟨g, cap, cur, hv, hb, hc, hn, hm, hs, ht⟩⟩ := h
  · exact ⟨hl, .inl h⟩
  · have hlt : g < w.heap.size := by
      rcases Nat.lt_or_ge g w.heap.size with h' | h'
      · exact h'
      · rw [Array.getElem?_eq_none h'] at hc; cases hc
    exact ⟨hl, .inr ⟨g, cap, cur, hv, hb, (f.blk g hlt (hF g hb)).trans hc, hn, hm, hs, ht⟩⟩
theorem own_ge {w : World} {base e size n : Nat} {v : Value} {xs : List Value} (h : w.ownsRow base e size v n xs) (k : Nat) (hk : v.ownBlock = some k) : base ≤ k := (h.lt k hk).1
/-- append. -/
theorem ApC {P : Program} {T : Tab} (hT : T.Ok P) {t ty e : Nat} {q : Rec} (ht : T.d t = .slice e) (hq : look T.recs e = some q) (hz : q.zero.length = q.size) (hs : 0 < q.size)
    {w : World} {base n bx ox m c te : Nat} {v : Value} {xs cs news : List Value} {K : Value → World → Prop} (own : w.ownsRow base e q.size v n xs) (hbase : base ≤ w.heap.size)
    (hx : Blk w bx te cs) (hcs : (cs.drop ox).take (m * q.size) = news) (hl : news.length = m * q.size) (h1 : news.all Value.oneCell' = true)
    (h63 : n + m ≤ 9223372036854775807) (hbytes : (n + m) * q.bytes ≤ 140737488355328)
    (k : ∀ v' w', w'.ownsRow base e q.size v' (n + m) (xs ++ news) → Fr (fun k => v.ownBlock = some k) w w' → K v' w') :
    RunC P (Builtin.append_ #[t, t] ty #[v, .slice (some ⟨bx, ox, none⟩) m c]) w K := by
  obtain ⟨_, i, zv, hi, his, hby, hzv, hc⟩ := hT.recs e q hq
  have hcell : ∀ j u, news[j]? = some u → w.cell? ((⟨bx, ox, none⟩ : Addr).add j) = some u := by
    intro j u hj
    rw [add_of]
    refine hx.cell ?_
    rw [← hcs, List.getElem?_take] at hj
    split at hj
    · rw [List.getElem?_drop] at hj; exact hj
    · cases hj
  have hzs : zv.cells.size = q.size := by rw [← Array.length_toList, hc, hz]
  obtain ⟨v', w', hr, ho, hg, _, _⟩ := run_append_own_at (P := P) w base t ty e i zv q.size q.bytes (und_slice hT ht) hi hzv his hby hzs hs v n xs own ⟨bx, ox, none⟩ m c news hl hcell (fun u hu => List.all_eq_true.1 h1 u hu) (by simpa [maxLen] using h63) hbytes hbase
  exact RunC_intro hr (k v' w' ho ⟨hg.os, hg.tape, hg.output, hg.size, fun j hj hn => hg.block j hj (fun e => hn e.symm)⟩)
/-- A row that came in: its cells. -/
def RowArg (w : World) (k : IntKind) (a : Option Addr) (len : Nat) (zs : List Int) : Prop :=
  (a = none ∧ len = 0 ∧ zs = []) ∨ ∃ x, a = some x ∧ len ≤ zs.length ∧ (∀ (i : Nat) (z : Int), zs[i]? = some z → w.cell? (x.add i) = some (.int k z))
theorem RowArg.keep {w w' : World} {k : IntKind} {a : Option Addr} {len : Nat} {zs : List Int} (h : RowArg w k a len zs) (f : Fr No w w') : RowArg w' k a len zs := by
  rcases h with h | ⟨x, ha, hl, hc⟩
  · exact .inl h
  · refine .inr ⟨x, ha, hl, fun i z hi => ?_⟩
    have h1 := hc i z hi
    have hb := World.block_lt_of_cell? w (x.add i) h1
    unfold World.cell? at h1 ⊢
    rw [f.blk (x.add i).block hb (fun e => e)]; exact h1
end Go.Vc
/- What empties a row. -/
namespace Go.Vc

theorem over_len : ∀ (vs : List Value) (o : Nat) (cs : List Value), (over cs o vs).length = cs.length := by
  intro vs
  induction vs with
  | nil => intro o cs; rfl
  | cons v vs ih => intro o cs; show (over (cs.set o v) (o + 1) vs).length = _; rw [ih, List.length_set]
theorem over_get : ∀ (vs : List Value) (o : Nat) (cs : List Value) (k : Nat), o + vs.length ≤ cs.length → (over cs o vs)[k]? = if o ≤ k ∧ k < o + vs.length then vs[k - o]? else cs[k]? := by
  intro vs
  induction vs with
  | nil =>
    intro o cs k h
    rw [if_neg (by intro e; have := e.2; simp at this; omega)]; rfl
  | cons v vs ih =>
    intro o cs k h
    simp only [List.length_cons] at h ⊢
    show (over (cs.set o v) (o + 1) vs)[k]? = _
    rw [ih (o + 1) (cs.set o v) k (by rw [List.length_set]; omega)]
    by_cases e : o = k
    · subst e
      rw [if_neg (by omega), if_pos (by omega), List.getElem?_set_self (by omega), Nat.sub_self]; rfl
    · rw [List.getElem?_set_ne e]
      by_cases e2 : o + 1 ≤ k ∧ k < o + 1 + vs.length
      · rw [if_pos e2, if_pos (by omega), show k - o = (k - (o + 1)) + 1 by omega, List.getElem?_cons_succ]
      · rw [if_neg e2, if_neg (by omega)]
theorem ClrC {P : Program} {T : Tab} (hT : T.Ok P) {t ty e : Nat} {q : Rec} {z : Value} (ht : T.d t = .slice e) (hq : look T.recs e = some q) (hz : q.zero = [z]) (h1 : z.oneCell' = true)
    {w : World} {b te o n c : Nat} {cs : List Value} {K : Value → World → Prop} (hb : Blk w b te cs) (hl : o + n ≤ cs.length)
    (k : ∀ w', Blk w' b te (over cs o (List.replicate n z)) → Fr (· = b) w w' → w'.heap.size = w.heap.size → K (.tuple #[]) w') :
    RunC P (Builtin.clear_ #[t] ty #[.slice (some ⟨b, o, none⟩) n c]) w K := by
  obtain ⟨_, i, zv, hi, hs, hby, hzv, hc⟩ := hT.recs e q hq
  have hcells : zv.cells = #[z] := by apply Array.toList_inj.1; rw [hc, hz]
  cases n with
  | zero =>
    refine RunC_intro (v := .tuple #[]) (w' := w) ?_ (k w hb (Fr.refl _ _) rfl)
    simp [Builtin.clear_, run_underlying (und_slice hT ht)]
  | succ n =>
    have hzc : (Builtin.zeroCells #[z] (n + 1)).toList = List.replicate (n + 1) z := by
      simp [Builtin.zeroCells]
      apply List.ext_getElem
      · simp
      · intro i h1 h2
        simp [Nat.mod_one]
    obtain ⟨w', hk, hr⟩ := StN_run (P := P) _ _ _ (StN_blk (K := fun w' => K (.tuple #[]) w') hb (vs := List.replicate (n + 1) z) (by simp [h1]) (by simpa using hl) k)
    refine RunC_intro ?_ hk
    simp [Builtin.clear_, run_underlying (und_slice hT ht), zeroValue, typeInfo, hi, hzv, hcells, hzc, hr]
/-- Nothing is there to be emptied. -/
theorem ClrC_none {P : Program} {T : Tab} (hT : T.Ok P) {t ty e : Nat} (ht : T.d t = .slice e) {w : World} {n c : Nat} {K : Value → World → Prop} (k : K (.tuple #[]) w) :
    RunC P (Builtin.clear_ #[t] ty #[.slice none n c]) w K := by
  refine RunC_intro ?_ k
  simp [Builtin.clear_, run_underlying (und_slice hT ht)]
/-- append, and where the row then lies. -/
theorem ApL {P : Program} {T : Tab} (hT : T.Ok P) {t ty e : Nat} {q : Rec} (ht : T.d t = .slice e) (hq : look T.recs e = some q) (hz : q.zero.length = q.size) (hs : 0 < q.size)
    {w : World} {base n bx ox m c te : Nat} {v : Value} {xs cs news : List Value} {K : Value → World → Prop} (own : w.ownsRow base e q.size v n xs) (hbase : base ≤ w.heap.size)
    (hx : Blk w bx te cs) (hcs : (cs.drop ox).take (m * q.size) = news) (hl : news.length = m * q.size) (h1 : news.all Value.oneCell' = true)
    (h63 : n + m ≤ 9223372036854775807) (hbytes : (n + m) * q.bytes ≤ 140737488355328)
    (k : ∀ v' w', w'.ownsRow base e q.size v' (n + m) (xs ++ news) → Fr (fun k => v.ownBlock = some k) w w' → (v'.ownBlock = v.ownBlock ∨ v'.ownBlock = some w.heap.size) → K v' w') :
    RunC P (Builtin.append_ #[t, t] ty #[v, .slice (some ⟨bx, ox, none⟩) m c]) w K := by
  obtain ⟨_, i, zv, hi, his, hby, hzv, hc⟩ := hT.recs e q hq
  have hcell : ∀ j u, news[j]? = some u → w.cell? ((⟨bx, ox, none⟩ : Addr).add j) = some u := by
    intro j u hj
    rw [add_of]
    refine hx.cell ?_
    rw [← hcs, List.getElem?_take] at hj
    split at hj
    · rw [List.getElem?_drop] at hj; exact hj
    · cases hj
  have hzs : zv.cells.size = q.size := by rw [← Array.length_toList, hc, hz]
  obtain ⟨v', w', hr, ho, hg, _, hloc⟩ := run_append_own_at (P := P) w base t ty e i zv q.size q.bytes (und_slice hT ht) hi hzv his hby hzs hs v n xs own ⟨bx, ox, none⟩ m c news hl hcell (fun u hu => List.all_eq_true.1 h1 u hu) (by simpa [maxLen] using h63) hbytes hbase
  exact RunC_intro hr (k v' w' ho ⟨hg.os, hg.tape, hg.output, hg.size, fun j hj hn => hg.block j hj (fun e => hn e.symm)⟩ hloc)
theorem own_blk {w : World} {base e size n : Nat} {v : Value} {xs : List Value} (h : w.ownsRow base e size v n xs) (k : Nat) (hk : v.ownBlock = some k) : ∃ cur, Blk w k e cur ∧ cur.take (n * size) = xs := by
  rcases own_cases h with ⟨rfl, _, _⟩ | ⟨g, cap, cur, rfl, _, hb, ht, _⟩
  · cases hk
  · simp [Value.ownBlock] at hk
    subst hk
    exact ⟨cur, hb, ht⟩
theorem own_keepV {w w' : World} {base e size n : Nat} {v : Value} {xs : List Value} {F : Nat → Prop} (h : w.ownsRow base e size v n xs) (f : Fr F w w') (hF : ∀ k, v.ownBlock = some k → ¬ F k) : w'.ownsRow base e size v n xs := by
  obtain ⟨hl, h | ⟨g, cap, cur, hv, hb, hc, hn, hm, hs, ht⟩⟩ := h
  · exact ⟨hl, .inl h⟩
  · have hlt : g < w.heap.size := by
      rcases Nat.lt_or_ge g w.heap.size with h' | h'
      · exact h'
      · rw [Array.getElem?_eq_none h'] at hc; cases hc
    exact ⟨hl, .inr ⟨g, cap, cur, hv, hb, (f.blk g hlt (hF g (by rw [hv]; rfl))).trans hc, hn, hm, hs, ht⟩⟩
/-- A map object. -/
def MapAt (w : World) (b : Nat) (es : Array MapEntry) (clock : Nat) : Prop := w.heap[b]? = some (.map es clock)
theorem MapAt.lt {w : World} {b : Nat} {es : Array MapEntry} {c : Nat} (h : MapAt w b es c) : b < w.heap.size := by
  unfold MapAt at h
  rcases Nat.lt_or_ge b w.heap.size with h' | h'
  · exact h'
  · rw [Array.getElem?_eq_none h'] at h; cases h
theorem MapAt.keep {w w' : World} {b : Nat} {es : Array MapEntry} {c : Nat} {F : Nat → Prop} (h : MapAt w b es c) (f : Fr F w w') (hn : ¬ F b) : MapAt w' b es c := (f.blk b h.lt hn).trans h
theorem NewC_map {w : World} {K : Nat → World → Prop} (k : ∀ b w', b = w.heap.size → MapAt w' b #[] 0 → Fr No w w' → w'.heap.size = b + 1 → K b w') : NewC w (.map #[] 0) K := by
  refine NewC_intro (k _ _ rfl ?_ ⟨rfl, rfl, rfl, by simp, fun k hk _ => RowKit.Below.heap_alloc w _ k hk⟩ (by simp))
  show (w.heap.push _)[w.heap.size]? = some _
  simp
end Go.Vc
/- Zones: which part of a heap a block belongs to. A step says in which zones it writes; new blocks may be given a zone. -/
namespace Go.Vc

structure Mv (z z' : Nat → Nat) (S : Nat → Prop) (w w' : World) : Prop where
  fr : Fr (fun k => S (z k)) w w'
  zs : ∀ k, k < w.heap.size → z' k = z k
section
variable {z z' z'' : Nat → Nat} {S S' U : Nat → Prop} {w w' w'' : World}
theorem Mv.refl (z : Nat → Nat) (S : Nat → Prop) (w : World) : Mv z z S w w := ⟨Fr.refl _ _, fun _ _ => rfl⟩
theorem Mv.of (f : Fr No w w') : Mv z z S w w' := ⟨f.weak (fun _ _ e => e.elim), fun _ _ => rfl⟩
theorem Mv.trans (h : Mv z z' S w w') (g : Mv z' z'' S' w' w'') (h1 : ∀ i, S i → U i) (h2 : ∀ i, S' i → U i) : Mv z z'' U w w'' :=
  ⟨h.fr.trans g.fr (fun _ _ e => h1 _ e) (fun k hk e => by rw [h.zs k hk] at e; exact h2 _ e),
   fun k hk => (g.zs k (Nat.lt_of_lt_of_le hk h.fr.size)).trans (h.zs k hk)⟩
theorem Mv.same (h : Mv z z' S w w') (g : Mv z' z'' S w' w'') : Mv z z'' S w w'' := h.trans g (fun _ e => e) (fun _ e => e)
theorem Mv.no (h : Mv z z' S w w') (g : Fr No w' w'') : Mv z z' S w w'' := h.same (Mv.of g)
theorem Mv.weak (h : Mv z z' S w w') (h1 : ∀ i, S i → U i) : Mv z z' U w w' := ⟨h.fr.weak (fun _ _ e => h1 _ e), h.zs⟩
theorem Mv.size (h : Mv z z' S w w') : w.heap.size ≤ w'.heap.size := h.fr.size
/-- Blocks of one zone. -/
theorem Mv.ofZ {F : Nat → Prop} (f : Fr F w w') (h : ∀ k, k < w.heap.size → F k → S (z k)) : Mv z z S w w' := ⟨f.weak h, fun _ _ => rfl⟩
/-- A new block comes into a zone. -/
def zput (z : Nat → Nat) (k i : Nat) : Nat → Nat := fun j => if j = k then i else z j
theorem zput_self {z : Nat → Nat} {k i : Nat} : zput z k i k = i := if_pos rfl
theorem zput_ne {z : Nat → Nat} {k i j : Nat} (h : j ≠ k) : zput z k i j = z j := if_neg h
theorem zput_lt {z : Nat → Nat} {b i n : Nat} (h : ∀ k, z k < n) (hi : i < n) : ∀ k, zput z b i k < n := fun k => by unfold zput; split; exact hi; exact h k
theorem zput_all {Q : Nat → Prop} {z : Nat → Nat} {b i : Nat} (h : ∀ k, Q (z k)) (hi : Q i) : ∀ k, Q (zput z b i k) := fun k => by unfold zput; split; exact hi; exact h k
theorem zput_keep {z : Nat → Nat} {a b i : Nat} (h : z a = i) : zput z b i a = i := by unfold zput; split; rfl; exact h
theorem Mv.put {k i : Nat} (h : Mv z z' S w w') (hk : w.heap.size ≤ k) : Mv z (zput z' k i) S w w' :=
  ⟨h.fr, fun j hj => by rw [zput_ne (by omega)]; exact h.zs j hj⟩
theorem Blk.mv {b t : Nat} {cs : List Value} {i : Nat} (h : Blk w b t cs) (hz : z b = i) (m : Mv z z' S w w') (hn : ¬ S i) : Blk w' b t cs ∧ z' b = i :=
  ⟨h.keep m.fr (by rw [hz]; exact hn), (m.zs b h.lt).trans hz⟩
end
end Go.Vc
/- Behind a region that is taken in many orders: what is known of the environment, once for all. Loads under any condition. -/
namespace Go.Vc

theorem AnyC_mid {P : Program} {ops : Array Oper} {ρ : Env} {w : World} {K : Env → World → Prop} {α : Type} (mk : α → Env) (J : α → World → Prop)
    (h : AnyC P ops ρ w (fun σ w' => ∃ x, Sub (mk x) σ ∧ J x w')) (k : ∀ x w', J x w' → K (mk x) w') : AnyC P ops ρ w K :=
  AnyC_mk fun n a Q hρ hd hQ hP id => AnyC_elim h n a Q hρ hd (fun _ a' w' hok ⟨x, hs, hj⟩ => hQ (mk x) a' w' (hok.sub hs) (k x w' hj)) hP id
theorem LdSN_auxS {S : World → Prop} {b t} {cs : List Value} (h : ∀ w', S w' → Blk w' b t cs) {o : Nat} : ∀ (vs : List Value) (i : Nat) (K : List Value → Prop), (cs.drop (o + i)).take vs.length = vs → K vs → LdSN S ⟨b, o, none⟩ i vs.length K := by
  intro vs
  induction vs with
  | nil => intro i K _ k; exact LdSN_zero' k
  | cons v vs ih =>
    intro i K hc k
    have h0 : cs[o + i]? = some v := by
      have : ((cs.drop (o + i)).take (vs.length + 1))[0]? = some v := by
        have e : (v :: vs).length = vs.length + 1 := rfl
        rw [e] at hc; rw [hc]; rfl
      rw [List.getElem?_take, if_pos (by omega), List.getElem?_drop, Nat.add_zero] at this
      exact this
    refine LdSN_cons' (LdS_intro (v := v) (fun w' hw => by rw [add_of]; exact (h w' hw).cell h0) (ih (i + 1) _ ?_ k))
    have e : cs.drop (o + i) = v :: cs.drop (o + i + 1) := by
      have hlt := (List.getElem?_eq_some_iff.1 h0)
      rw [List.drop_eq_getElem_cons hlt.1, hlt.2]
    rw [e] at hc
    simp only [List.length_cons, List.take_succ_cons, List.cons.injEq, true_and] at hc
    exact hc
theorem LdSN_of {S : World → Prop} {b t o n} {cs vs : List Value} {K : List Value → Prop} (h : ∀ w', S w' → Blk w' b t cs) (hc : (cs.drop o).take n = vs) (hn : vs.length = n) (k : K vs) : LdSN S ⟨b, o, none⟩ 0 n K := by
  subst hn
  exact LdSN_auxS h vs 0 K hc k
theorem LdS_of {S : World → Prop} {b t o} {cs : List Value} {v : Value} {K : Value → Prop} (h : ∀ w', S w' → Blk w' b t cs) (hc : cs[o]? = some v) (k : K v) : LdS S ⟨b, o, none⟩ K := LdS_intro (fun w' hw => (h w' hw).cell hc) k
/-- What is written is new. -/
theorem Mv.new {z z' : Nat → Nat} {S G : Nat → Prop} {w w' w'' : World} (h : Mv z z' S w w') (g : Fr G w' w'') (hG : ∀ k, G k → w.heap.size ≤ k) : Mv z z' S w w'' :=
  ⟨h.fr.new g (fun _ _ e => e) hG, h.zs⟩
end Go.Vc
