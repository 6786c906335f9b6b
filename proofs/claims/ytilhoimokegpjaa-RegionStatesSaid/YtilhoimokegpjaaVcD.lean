/- The rules for operations that read or write memory, and for calls. -/
import Derived.Test.YtilhoimokegpjaaVcC
namespace Go.Vc

def LdC (w : World) (ad : Addr) (K : Value → Prop) : Prop := ∃ v, w.cell? ad = some v ∧ K v
theorem LdC_intro {w : World} {ad : Addr} {K : Value → Prop} {v : Value} (h : w.cell? ad = some v) (k : K v) : LdC w ad K := ⟨v, h, k⟩
theorem LdC_elim {w : World} {ad : Addr} {K : Value → Prop} (h : LdC w ad K) : ∃ v, w.cell? ad = some v ∧ K v := h
attribute [irreducible] LdC
noncomputable def LdN (w : World) (ad : Addr) (i n : Nat) (K : List Value → Prop) : Prop :=
  Nat.rec (motive := fun _ => Nat → (List Value → Prop) → Prop) (fun _ K => K []) (fun _ ih i K => LdC w (ad.add i) fun v => ih (i + 1) fun vs => K (v :: vs)) n i K
theorem LdN_succ' {w : World} {ad : Addr} {i n : Nat} {K : List Value → Prop} : LdN w ad i (n + 1) K = LdC w (ad.add i) fun v => LdN w ad (i + 1) n fun vs => K (v :: vs) := rfl
def StC (w : World) (ad : Addr) (v : Value) (K : World → Prop) : Prop := v.oneCell' = true ∧ (∃ u, w.cell? ad = some u) ∧ w.frozen? ad = false ∧ K (w.setCell ad v)
theorem StC_intro {w : World} {ad : Addr} {v u : Value} {K : World → Prop} (h1 : v.oneCell' = true) (h2 : w.cell? ad = some u) (h3 : w.frozen? ad = false) (k : K (w.setCell ad v)) : StC w ad v K := ⟨h1, ⟨u, h2⟩, h3, k⟩
theorem StC_elim {w : World} {ad : Addr} {v : Value} {K : World → Prop} (h : StC w ad v K) : v.oneCell' = true ∧ (∃ u, w.cell? ad = some u) ∧ w.frozen? ad = false ∧ K (w.setCell ad v) := h
attribute [irreducible] StC
noncomputable def StN (ad : Addr) (i : Nat) (vs : List Value) (K : World → Prop) (w : World) : Prop :=
  List.rec (motive := fun _ => Nat → World → Prop) (fun _ w => K w) (fun v _ ih i w => StC w (ad.add i) v fun w' => ih (i + 1) w') vs i w
noncomputable def StX (ad : Addr) (l : List Value) (K : World → Prop) (w : World) : Prop := match l with
  | [v] => StC w ad v K
  | vs => StN ad 0 vs K w
theorem StX_StN {ad : Addr} {l : List Value} {K : World → Prop} {w : World} (h : StX ad l K w) : StN ad 0 l K w := by
  unfold StX at h
  split at h
  · exact h
  · exact h
def NewC (w : World) (o : Obj) (K : Nat → World → Prop) : Prop := K w.heap.size (w.alloc o)
theorem NewC_intro {w : World} {o : Obj} {K : Nat → World → Prop} (h : K w.heap.size (w.alloc o)) : NewC w o K := h
theorem NewC_elim {w : World} {o : Obj} {K : Nat → World → Prop} (h : NewC w o K) : K w.heap.size (w.alloc o) := h
attribute [irreducible] NewC
def RunC {α : Type} (P : Program) (s : Sem α) (w : World) (K : α → World → Prop) : Prop := ∃ v w', s.run P w = .ok v w' ∧ K v w'
theorem RunC_intro {α : Type} {P : Program} {s : Sem α} {w : World} {K : α → World → Prop} {v : α} {w' : World} (h : s.run P w = .ok v w') (k : K v w') : RunC P s w K := ⟨v, w', h, k⟩
theorem RunC_elim {α : Type} {P : Program} {s : Sem α} {w : World} {K : α → World → Prop} (h : RunC P s w K) : ∃ v w', s.run P w = .ok v w' ∧ K v w' := h
attribute [irreducible] RunC
def CallC (P : Program) (f : FuncId) (args : List Value) (w : World) (K : Value → World → Prop) : Prop := Calls P f args.toArray w fun e w' => ∃ v, e = .returned v ∧ K v w'
theorem CallC_intro {P : Program} {f : FuncId} {args : List Value} {w : World} {K : Value → World → Prop} {R : Value → World → Prop}
    (h : CallC P f args w R) (k : ∀ v w', R v w' → K v w') : CallC P f args w K :=
  Calls.mono h fun _ w' ⟨v, he, hr⟩ => ⟨v, he, k v w' hr⟩
theorem CallC_mk {P : Program} {f : FuncId} {args : List Value} {w : World} {K : Value → World → Prop} (h : Calls P f args.toArray w fun e w' => ∃ v, e = .returned v ∧ K v w') : CallC P f args w K := h
theorem CallC_elim {P : Program} {f : FuncId} {args : List Value} {w : World} {K : Value → World → Prop} (h : CallC P f args w K) : Calls P f args.toArray w fun e w' => ∃ v, e = .returned v ∧ K v w' := h
attribute [irreducible] CallC

noncomputable def rowL (fs : List (Nat × Nat)) (size : Nat) (ρ : Env) : List (Nat × Operand) → Option (List (Nat × List Value))
  | [] => some []
  | (i, x) :: r => match ev ρ x, rowL fs size ρ r with
    | some v, some l => (match Nat.beq (cellsL v).length size with | true => some ((i * size, cellsL v) :: l) | false => none)
    | _, _ => none
def zerosR (m : Nat) (zero : List Value) : List Value := (List.range m).map fun x => zero.toArray[x % zero.toArray.size]!

noncomputable def effVC (P : Program) (T : Tab) (ρ : Env) (op : Op) (type : TypeId) (K : Value → World → Prop) (w : World) : Prop :=
  match op with
  | .load t x => (match look T.recs t, ev ρ x with
    | some q, some (.pointer (some ad)) => (match q.d.agg with
      | true => LdN w ad 0 q.size fun vs => K (.agg vs.toArray) w
      | false => LdC w ad fun v => K v w)
    | _, _ => False)
  | .store t x v => (match look T.recs t, ev ρ x, ev ρ v with
    | some q, some (.pointer (some ad)), some v => (match Nat.beq (cellsL v).length q.size with
      | true => StX ad (cellsL v) (K undef) w
      | false => False)
    | _, _, _ => False)
  | .alloc t => (match look T.recs t with
    | some q => NewC w (.cells q.zero.toArray t) fun b w' => K (.pointer (some ⟨b, 0, none⟩)) w'
    | none => False)
  | .box t x => (match ev ρ x with
    | some v => NewC w (.cells (cellsL v).toArray t) fun b w' => K (.pointer (some ⟨b, 0, none⟩)) w'
    | none => False)
  | .buildSlice t n parts => (match T.d t with
    | .slice e => (match look T.recs e with
      | some q => (match rowL [] q.size ρ parts.toList, Nat.ble (n * q.size) 16777216, Nat.beq (n * q.size) 0 with
        | some ps, true, false => (match ps.all (fun p => Nat.ble (p.1 + p.2.length) (n * q.size)) with
          | true => NewC w (.cells (fillL (zerosR (n * q.size) q.zero) ps).toArray e) fun b w' => K (.slice (some ⟨b, 0, none⟩) n n) w'
          | false => False)
        | some [], true, true => NewC w (.cells #[] e) fun b w' => K (.slice (some ⟨b, 0, none⟩) n n) w'
        | _, _, _ => False)
      | none => False)
    | _ => False)
  | .makeSlice t l c => (match ev ρ l, ev ρ c with
    | some l, some c => RunC P (Instr.makeSlice t l c) w K
    | _, _ => False)
  | .makeMap _ none => NewC w (.map #[] 0) fun b w' => K (.map (some b)) w'
  | .lookup t x i ok => (match ev ρ x, ev ρ i with
    | some x, some i => RunC P (Instr.lookup t x i ok) w K
    | _, _ => False)
  | .mapUpdate t m k x | .insert t m k x => (match ev ρ m, ev ρ k, ev ρ x with
    | some m, some k, some x => RunC P (Instr.mapUpdate t m k x) w fun _ w' => K undef w'
    | _, _, _ => False)
  | .mapEntry t m k => (match ev ρ m, ev ρ k with
    | some m, some k => RunC P (Instr.mapEntry t m k) w K
    | _, _ => False)
  | .entryStore t m k x => (match ev ρ m, ev ρ k, ev ρ x with
    | some m, some k, some x => RunC P (Instr.entryStore t m k x) w fun _ w' => K undef w'
    | _, _, _ => False)
  | .range t x => (match ev ρ x with | some x => RunC P (Instr.range t x) w K | none => False)
  | .next x s => (match ev ρ x with | some x => RunC P (Instr.next x s type) w K | none => False)
  | .entry x => (match ev ρ x with | some x => RunC P (Instr.entry x) w K | none => False)
  | .index t x i => (match ev ρ x, ev ρ i with
    | some x, some i => RunC P (Instr.index t x i) w K
    | _, _ => False)
  | .binOp op t x y _ => (match ev ρ x, ev ρ y with
    | some u, some v => RunC P (do eqGuard op t x y u v; binOp op t u v) w K
    | _, _ => False)
  | .convert s t x => (match ev ρ x with | some x => RunC P (convert s t x) w K | none => False)
  | .slice t x lo hi none => (match ev ρ x, lo, hi with
    | some x, none, none => RunC P (Instr.sliceAt t x none none none) w K
    | some x, some l, none => (match ev ρ l with | some l => RunC P (Instr.sliceAt t x (some l) none none) w K | none => False)
    | some x, none, some h => (match ev ρ h with | some h => RunC P (Instr.sliceAt t x none (some h) none) w K | none => False)
    | some x, some l, some h => (match ev ρ l, ev ρ h with | some l, some h => RunC P (Instr.sliceAt t x (some l) (some h) none) w K | _, _ => False)
    | _, _, _ => False)
  | .call { callee := .value f, args, argTypes := _ } => (match ev ρ f, evs ρ args.toList with
    | some (.func (.func g) first cap), some vs => (match has T.fns g with
      | true => CallC P g (first.toList ++ vs ++ cap.toList) w K
      | false => False)
    | _, _ => False)
  | .call { callee := .builtin b, args, argTypes } => (match b, evs ρ args.toList with
    | .append, some vs => RunC P (Builtin.append_ argTypes type vs.toArray) w K
    | .copy, some vs => RunC P (Builtin.copy_ argTypes type vs.toArray) w K
    | .clear, some vs => RunC P (Builtin.clear_ argTypes type vs.toArray) w K
    | .delete, some vs => RunC P (Builtin.delete_ argTypes type vs.toArray) w K
    | .len, some vs => RunC P (Builtin.len_ argTypes type vs.toArray) w K
    | .cap, some vs => RunC P (Builtin.cap_ argTypes type vs.toArray) w K
    | _, _ => False)
  | _ => False

section
variable {P : Program} {T : Tab} {n : Nat} {ρ : Env} {a : Act} {w : World} {next : Act → World → Prop} {Q : Exit → Act → World → Prop}

theorem upon_of {o : Oper} {K : Value → World → Prop} (hn : ∀ v w', K v w' → next (a.put o.dst v) w') {v : Value} {w' : World} (h : (execOp a.eval o).run P w = .ok (.value v) w') (k : K v w') : o.wp P a w next Q := by
  unfold Oper.wp; rw [h]; exact hn _ _ k
theorem upon_skip {o : Oper} {K : Value → World → Prop} (hn : ∀ v w', K v w' → next (a.put o.dst v) w') {w' : World} (h : (execOp a.eval o).run P w = .ok .skip w') (k : K undef w') : o.wp P a w next Q := by
  unfold Oper.wp; rw [h]; exact hn _ _ k

theorem LdN_run {ad : Addr} : ∀ (m i : Nat) (acc : List Value) (K : List Value → Prop), LdN w ad i m K →
    ∃ vs, K vs ∧ (loadCellsFrom ad i m acc.toArray).run P w = .ok (acc ++ vs).toArray w := by
  intro m
  induction m with
  | zero => intro i acc K h; exact ⟨[], h, by simp [loadCellsFrom]⟩
  | succ m ih =>
    intro i acc K h
    obtain ⟨v, hv, hk⟩ := LdC_elim h
    obtain ⟨vs, hvs, hr⟩ := ih (i + 1) (acc ++ [v]) _ hk
    refine ⟨v :: vs, hvs, ?_⟩
    simp only [loadCellsFrom, Sem.run_bind, run_load, hv, Result.andThen_ok]
    have : acc.toArray.push v = (acc ++ [v]).toArray := by simp
    rw [this, hr]; simp
theorem StN_run {ad : Addr} {K : World → Prop} : ∀ (vs : List Value) (i : Nat) (w : World), StN ad i vs K w →
    ∃ w', K w' ∧ (storeCells ad vs i).run P w = .ok () w' := by
  intro vs
  induction vs with
  | nil => intro i w h; exact ⟨w, h, rfl⟩
  | cons v vs ih =>
    intro i w h
    obtain ⟨h1, ⟨u, h2⟩, h3, h4⟩ := StC_elim h
    obtain ⟨w', hk, hr⟩ := ih (i + 1) _ h4
    exact ⟨w', hk, by simp only [storeCells, Sem.run_bind, run_store P w _ v .plain h1, h2, h3, Bool.false_eq_true, if_false, Result.andThen_ok, hr]⟩

theorem rowL_ok (hρ : ρ.Ok n a) (size : Nat) : ∀ (l : List (Nat × Operand)) (qs : List (Nat × List Value)), rowL [] size ρ l = some qs →
    (l.map fun p => (p.1, a.eval p.2)).map (fun p => (some (p.1 * size, size), cellsL p.2)) = qs.map (fun q => (some (q.1, q.2.length), q.2)) := by
  intro l
  induction l with
  | nil => intro qs h; simp [rowL] at h; subst h; rfl
  | cons p l ih =>
    intro qs h
    obtain ⟨i, x⟩ := p
    simp only [rowL] at h
    cases h2 : ev ρ x with
    | none => simp [h2] at h
    | some v =>
      cases h3 : rowL [] size ρ l with
      | none => simp [h2, h3] at h
      | some ps =>
        simp only [h2, h3] at h
        cases h5 : Nat.beq (cellsL v).length size with
        | false => simp [h5] at h
        | true =>
          simp only [h5, Option.some.injEq] at h
          subst h
          have := Nat.eq_of_beq_eq_true h5
          simp [hρ.ev h2, this]
          simpa using ih ps h3

theorem evs_map (hρ : ρ.Ok n a) {xs : Array Operand} {vs : List Value} (h : evs ρ xs.toList = some vs) : xs.map a.eval = vs.toArray :=
  Array.toList_inj.1 (by simpa using hρ.evs h)

theorem eff_sound (hT : T.Ok P) (hρ : ρ.Ok n a) {o : Oper} {K : Value → World → Prop} (hn : ∀ v w', K v w' → next (a.put o.dst v) w')
    (h : effVC P T ρ o.op o.type K w) : o.wp P a w next Q := by
  obtain ⟨dst, op, type, pos, after, guard⟩ := o
  simp only at h hn
  cases op with
  | load t x =>
    simp only [effVC] at h
    split at h
    · rename_i q ad h1 h2
      have hagg := look_isAgg hT h1
      cases hq : q.d.agg with
      | true =>
        rw [hq] at h hagg
        obtain ⟨vs, hk, hr⟩ := LdN_run (P := P) q.size 0 [] _ h
        refine upon_of hn ?_ hk
        simp only [List.nil_append] at hr
        simp [execOp, hρ.ev h2, Instr.loadAt, Instr.sureAddr, loadVar, hagg, look_size hT h1, loadCells, hr]
      | false =>
        rw [hq] at h hagg
        obtain ⟨v, hv, hk⟩ := LdC_elim h
        refine upon_of hn ?_ hk
        simp [execOp, hρ.ev h2, Instr.loadAt, Instr.sureAddr, loadVar, hagg, hv]
    · exact h.elim
  | store t x v =>
    simp only [effVC] at h
    split at h
    · rename_i q ad v' h1 h2 h3
      cases hb : Nat.beq (cellsL v').length q.size with
      | false => rw [hb] at h; exact h.elim
      | true =>
        rw [hb] at h
        have hb := Nat.eq_of_beq_eq_true hb
        have h : StN ad 0 (cellsL v') (K undef) w := by
          exact StX_StN h
        obtain ⟨w', hk, hr⟩ := StN_run (P := P) _ _ _ h
        refine upon_skip hn ?_ hk
        have hsz : v'.cells.size = q.size := by rw [← Array.length_toList, cells_eq, hb]
        simp [execOp, hρ.ev h2, hρ.ev h3, Instr.storeAt, Instr.sureAddr, storeVar, look_size hT h1, hsz, cells_eq, hr]
    · exact h.elim
  | alloc t =>
    simp only [effVC] at h
    split at h
    · rename_i q h1
      have h := NewC_elim h
      obtain ⟨z, hz, hzr⟩ := look_zero hT h1
      refine upon_of hn ?_ h
      have hzz : z.cells = q.zero.toArray := Array.toList_inj.1 (by simpa using hz)
      simp [execOp, Instr.alloc, hzr, newVar, newRow, hzz]
    · exact h.elim
  | box t x =>
    simp only [effVC] at h
    split at h
    · rename_i v h1
      have h := NewC_elim h
      refine upon_of hn ?_ h
      have hzz : v.cells = (cellsL v).toArray := Array.toList_inj.1 (by simpa using cells_eq v)
      simp [execOp, Instr.box, newVar, newRow, hzz, hρ.ev h1]
    · exact h.elim
  | buildSlice t m parts =>
    simp only [effVC] at h
    split at h
    · rename_i e h1
      split at h
      · rename_i q h2
        obtain ⟨z, hz, hzr⟩ := look_zero hT h2
        have hzz : z.cells = q.zero.toArray := Array.toList_inj.1 (by simpa using hz)
        have hpe : (parts.map fun (x : Nat × Operand) => match x with | (i, x) => (i, a.eval x)).toList = parts.toList.map fun p => (p.1, a.eval p.2) := by simp
        split at h
        · rename_i ps h3 h4 h5
          cases h6 : ps.all (fun p => Nat.ble (p.1 + p.2.length) (m * q.size)) with
          | false => rw [h6] at h; exact h.elim
          | true =>
            rw [h6] at h
            have h := NewC_elim h
            refine upon_of hn ?_ h
            have hle := Nat.le_of_ble_eq_true h4
            have hne : ¬ m * q.size = 0 := fun e => by rw [e] at h5; cases h5
            have hzl : (zerosR (m * q.size) q.zero).length = m * q.size := by simp [zerosR]
            have hfill := fill_ok (fun i => some (i * q.size, q.size)) _ ps (zerosR (m * q.size) q.zero) (rowL_ok hρ q.size parts.toList ps h3) (by rw [hzl]; exact h6)
            have hle' : ¬ m * q.size > 2 ^ 24 := by omega
            have hzt : (zerosR (m * q.size) q.zero).toArray = (Array.range (m * q.size)).map (q.zero.toArray[· % q.zero.toArray.size]!) := by apply Array.toList_inj.1; simp only [zerosR, Array.toList_map, Array.toList_range]
            rw [hzt] at hfill
            simp only [execOp, Instr.buildSlice, Sem.run_bind, run_underlying (und_slice hT h1), Result.andThen_ok, look_size hT h2, Sem.run_pure, hpe, hne, hle', if_false, Sem.run_ite, hzr, hzz, hfill, newRow, run_newObj]
            rfl
        · rename_i h3 h4 h5
          have h := NewC_elim h
          refine upon_of hn ?_ h
          have h0 := Nat.eq_of_beq_eq_true h5
          have hp : parts.toList = [] := by
            cases hl : parts.toList with
            | nil => rfl
            | cons p l =>
              obtain ⟨i, x⟩ := p
              rw [hl] at h3
              simp only [rowL] at h3
              split at h3
              · split at h3 <;> simp at h3
              · cases h3
          have hp' : parts = #[] := Array.toList_inj.1 (by simpa using hp)
          subst hp'
          simp [execOp, Instr.buildSlice, run_underlying (und_slice hT h1), look_size hT h2, h0, Instr.fill, newRow]
          have hz0 : ∀ f : Nat → Value, Array.map f (Array.range 0) = #[] := fun f => Array.toList_inj.1 (by simp only [Array.toList_map, Array.toList_range, List.range_zero, List.map_nil])
          rw [hz0]
        · exact h.elim
      · exact h.elim
    · exact h.elim
  | makeSlice t l c =>
    simp only [effVC] at h
    split at h
    · rename_i l' c' h1 h2
      obtain ⟨v, w', hr, hk⟩ := RunC_elim h
      exact upon_of hn (by simp [execOp, hρ.ev h1, hρ.ev h2, hr]) hk
    · exact h.elim
  | makeMap t r =>
    cases r with
    | some r => exact h.elim
    | none =>
      have h := NewC_elim (show NewC _ _ _ from h)
      exact upon_of hn (by simp [execOp, Instr.makeMap]) h
  | lookup t x i ok =>
    simp only [effVC] at h
    split at h
    · rename_i x' i' h1 h2
      obtain ⟨v, w', hr, hk⟩ := RunC_elim h
      exact upon_of hn (by simp [execOp, hρ.ev h1, hρ.ev h2, hr]) hk
    · exact h.elim
  | mapUpdate t m k x =>
    simp only [effVC] at h
    split at h
    · rename_i m' k' x' h1 h2 h3
      obtain ⟨v, w', hr, hk⟩ := RunC_elim h
      exact upon_skip hn (by simp [execOp, hρ.ev h1, hρ.ev h2, hρ.ev h3, hr]) hk
    · exact h.elim
  | insert t m k x =>
    simp only [effVC] at h
    split at h
    · rename_i m' k' x' h1 h2 h3
      obtain ⟨v, w', hr, hk⟩ := RunC_elim h
      exact upon_skip hn (by simp [execOp, hρ.ev h1, hρ.ev h2, hρ.ev h3, hr]) hk
    · exact h.elim
  | mapEntry t m k =>
    simp only [effVC] at h
    split at h
    · rename_i m' k' h1 h2
      obtain ⟨v, w', hr, hk⟩ := RunC_elim h
      exact upon_of hn (by simp [execOp, hρ.ev h1, hρ.ev h2, hr]) hk
    · exact h.elim
  | entryStore t m k x =>
    simp only [effVC] at h
    split at h
    · rename_i m' k' x' h1 h2 h3
      obtain ⟨v, w', hr, hk⟩ := RunC_elim h
      exact upon_skip hn (by simp [execOp, hρ.ev h1, hρ.ev h2, hρ.ev h3, hr]) hk
    · exact h.elim
  | range t x =>
    simp only [effVC] at h
    split at h
    · rename_i x' h1
      obtain ⟨v, w', hr, hk⟩ := RunC_elim h
      exact upon_of hn (by simp [execOp, hρ.ev h1, hr]) hk
    · exact h.elim
  | next x s =>
    simp only [effVC] at h
    split at h
    · rename_i x' h1
      obtain ⟨v, w', hr, hk⟩ := RunC_elim h
      exact upon_of hn (by simp [execOp, hρ.ev h1, hr]) hk
    · exact h.elim
  | entry x =>
    simp only [effVC] at h
    split at h
    · rename_i x' h1
      obtain ⟨v, w', hr, hk⟩ := RunC_elim h
      exact upon_of hn (by simp [execOp, hρ.ev h1, hr]) hk
    · exact h.elim
  | index t x i =>
    simp only [effVC] at h
    split at h
    · rename_i x' i' h1 h2
      obtain ⟨v, w', hr, hk⟩ := RunC_elim h
      exact upon_of hn (by simp [execOp, hρ.ev h1, hρ.ev h2, hr]) hk
    · exact h.elim
  | binOp op t x y u =>
    simp only [effVC] at h
    split at h
    · rename_i x' y' h1 h2
      obtain ⟨v, w', hr, hk⟩ := RunC_elim h
      refine upon_of hn ?_ hk
      simp only [execOp, hρ.ev h1, hρ.ev h2]
      rw [Sem.run_bind, hr]; rfl
    · exact h.elim
  | convert s t x =>
    simp only [effVC] at h
    split at h
    · rename_i x' h1
      obtain ⟨v, w', hr, hk⟩ := RunC_elim h
      exact upon_of hn (by simp [execOp, hρ.ev h1, hr]) hk
    · exact h.elim
  | slice t x lo hi mx =>
    cases mx with
    | some m => exact h.elim
    | none =>
      simp only [effVC] at h
      split at h
      · rename_i x' h1
        obtain ⟨v, w', hr, hk⟩ := RunC_elim h
        exact upon_of hn (by simp [execOp, hρ.ev h1, hr]) hk
      · rename_i x' l h1
        split at h
        · rename_i l' h2
          obtain ⟨v, w', hr, hk⟩ := RunC_elim h
          exact upon_of hn (by simp [execOp, hρ.ev h1, hρ.ev h2, hr]) hk
        · exact h.elim
      · rename_i x' l h1
        split at h
        · rename_i l' h2
          obtain ⟨v, w', hr, hk⟩ := RunC_elim h
          exact upon_of hn (by simp [execOp, hρ.ev h1, hρ.ev h2, hr]) hk
        · exact h.elim
      · rename_i x' l hh h1
        split at h
        · rename_i l' h' h2 h3
          obtain ⟨v, w', hr, hk⟩ := RunC_elim h
          exact upon_of hn (by simp [execOp, hρ.ev h1, hρ.ev h2, hρ.ev h3, hr]) hk
        · exact h.elim
      · exact h.elim
  | call c =>
    obtain ⟨callee, args, argTypes⟩ := c
    cases callee with
    | invoke r m => exact h.elim
    | value f =>
      simp only [effVC] at h
      split at h
      · rename_i g first cap vs h1 h2
        cases h3 : has T.fns g with
        | false => rw [h3] at h; exact h.elim
        | true =>
          rw [h3] at h
          obtain ⟨fn, f1, f2, f3⟩ := hT.fns g h3
          have h := CallC_elim h
          have e1 := evs_map hρ h2
          unfold Oper.wp
          have : (execOp a.eval { dst, op := .call { callee := .value f, args, argTypes }, type, pos, after, guard }).run P w = .ok (.enter g (first.toList ++ vs ++ cap.toList).toArray) w := by
            have f2' : ¬ fn.name = "runtime.NumGoroutine" := by simpa using f2
            have f3' : fn.body ≠ none := by intro e; rw [e] at f3; cases f3
            have ea : first ++ vs.toArray ++ cap = (first.toList ++ vs ++ cap.toList).toArray := by apply Array.toList_inj.1; simp
            simp only [execOp, resolve, hρ.ev h1, Deferred.ofValue, e1, Sem.run_bind, Sem.run_pure, Result.andThen_ok, invoke, callFunc, run_program, f1]
            simp [f2', f3']
          rw [this]
          refine Calls.mono h ?_
          rintro e w' ⟨v, rfl, hk⟩
          exact hn v w' hk
      · exact h.elim
    | builtin b =>
      simp only [effVC] at h
      split at h <;> first
        | exact h.elim
        | (rename_i vs h1
           obtain ⟨v, w', hr, hk⟩ := RunC_elim h
           have e1 := evs_map hρ h1
           exact upon_of hn (by simp [execOp, resolve, invoke, builtin, e1, hr]) hk)
  | _ => exact h.elim
theorem LdN_zero' {w : World} {ad : Addr} {i : Nat} {K : List Value → Prop} (h : K []) : LdN w ad i 0 K := h
theorem LdN_cons' {w : World} {ad : Addr} {i n : Nat} {K : List Value → Prop} (h : LdC w (ad.add i) fun v => LdN w ad (i + 1) n fun vs => K (v :: vs)) : LdN w ad i (n + 1) K := h
theorem StN_zero' {w : World} {ad : Addr} {i : Nat} {K : World → Prop} (h : K w) : StN ad i [] K w := h
theorem StN_cons' {w : World} {ad : Addr} {i : Nat} {v : Value} {vs : List Value} {K : World → Prop} (h : StC w (ad.add i) v fun w' => StN ad (i + 1) vs K w') : StN ad i (v :: vs) K w := h
attribute [irreducible] LdN StN
end
end Go.Vc
