/- The rules for statements whose order of evaluation is open: a plan says which operation may be taken first. -/
import Derived.Test.YtilhoimokegpjaaVcE
import Derived.OrdersHeld
namespace Go.Vc

/-- `i` comes after `k`: an edge that binds. -/
def before1 (ops : Array Oper) (i k : Nat) : Bool := match ops[i]? with | some o => o.after.any fun e => Region.binds .any e && e.on == k | none => false
def before2 (ops : Array Oper) (i k : Nat) : Bool := before1 ops i k || (List.range ops.size).any fun m => before1 ops i m && before1 ops m k
def isLast (ops : Array Oper) (i : Nat) : Bool :=
  (List.range ops.size).all fun k => k == i || before2 ops i k
/-- What is listed has all it waits for listed. -/
def Closed (ops : Array Oper) (listed : Array Bool) : Prop :=
  ∀ k o, ops[k]? = some o → listed.getD k false = true → ∀ e ∈ o.after, Region.binds .any e = true → listed.getD e.on false = true
theorem Closed.init {ops : Array Oper} {n : Nat} : Closed ops (Array.replicate n false) := by
  intro k o _ h
  rcases Nat.lt_or_ge k n with hk | hk <;> simp [hk, Array.getD] at h
  all_goals omega
theorem Closed.set {ops : Array Oper} {listed : Array Bool} {i : Nat} (hc : Closed ops listed) (hi : i ∈ Region.ready .any ops listed) : Closed ops (listed.setIfInBounds i true) := by
  intro k o ho h e he hb
  obtain ⟨_, oi, hoi, hall⟩ := mem_ready.1 hi
  by_cases hik : i = k
  · subst hik
    rw [hoi] at ho
    injection ho with ho
    subst ho
    exact getD_set_true (hall e he hb)
  · rw [getD_set_ne false hik] at h
    exact getD_set_true (hc k o ho h e he hb)
theorem before1_listed {ops : Array Oper} {listed : Array Bool} (hc : Closed ops listed) {i k : Nat} (h : before1 ops i k = true) (hi : listed.getD i false = true) : listed.getD k false = true := by
  unfold before1 at h
  split at h
  · rename_i o ho
    obtain ⟨e, he, hb⟩ := Array.any_eq_true'.1 h
    simp only [Bool.and_eq_true, beq_iff_eq] at hb
    rw [← hb.2]; exact hc i o ho hi e he hb.1
  · cases h
theorem before1_ready {ops : Array Oper} {listed : Array Bool} {i k : Nat} (h : before1 ops i k = true) (hi : i ∈ Region.ready .any ops listed) : listed.getD k false = true := by
  obtain ⟨_, oi, hoi, hall⟩ := mem_ready.1 hi
  unfold before1 at h
  rw [hoi] at h
  obtain ⟨e, he, hb⟩ := Array.any_eq_true'.1 h
  simp only [Bool.and_eq_true, beq_iff_eq] at hb
  rw [← hb.2]; exact hall e he hb.1
theorem before2_ready {ops : Array Oper} {listed : Array Bool} (hc : Closed ops listed) {i k : Nat} (h : before2 ops i k = true) (hi : i ∈ Region.ready .any ops listed) : listed.getD k false = true := by
  unfold before2 at h
  rcases Bool.or_eq_true _ _ ▸ h with h | h
  · exact before1_ready h hi
  · obtain ⟨m, _, hm⟩ := List.any_eq_true.1 h
    simp only [Bool.and_eq_true] at hm
    exact before1_listed hc hm.2 (before1_ready hm.1 hi)
theorem unlisted {listed : Array Bool} {i : Nat} (h : listed.getD i true = false) : ¬ listed.getD i false = true := by
  intro h'
  rcases Nat.lt_or_ge i listed.size with hs | hs
  · simp [hs] at h h'; rw [h] at h'; cases h'
  · simp [Array.getElem?_eq_none hs] at h

section
variable {P : Program} {ops : Array Oper} {Q : Exit → Act → World → Prop} {S : World → Prop}
def wpAnyS (P : Program) (ops : Array Oper) (Q : Exit → Act → World → Prop) (S : World → Prop) : Nat → Array Bool → Act → World → Prop
  | 0, listed, a, w => Region.ready .any ops listed = [] ∧ Q .normal a w
  | fuel + 1, listed, a, w =>
    (Region.ready .any ops listed = [] → Q .normal a w) ∧
    ∀ i ∈ Region.ready .any ops listed, wpOp P ops Q i (fun a' w' => (isLast ops i = false → S w') ∧ wpAnyS P ops Q S fuel (listed.setIfInBounds i true) a' w') a w
theorem wpAny_of_S : ∀ (fuel : Nat) (listed : Array Bool) (a : Act) (w : World), wpAnyS P ops Q S fuel listed a w → wpAny P .any ops Q fuel listed a w := by
  intro fuel
  induction fuel with
  | zero => intro listed a w h; exact h
  | succ fuel ih => intro listed a w h; exact ⟨h.1, fun i hi => wpOp_mono (fun a w h => ih _ _ _ h.2) (h.2 i hi)⟩

theorem not_last {listed : Array Bool} {i j : Nat} (hc : Closed ops listed) (hj : j ∈ Region.ready .any ops listed) (hi : i ∈ Region.ready .any ops listed) (hne : j ≠ i) : isLast ops j = false := by
  obtain ⟨hiun, oi, hoi, _⟩ := mem_ready.1 hi
  cases hl : isLast ops j with
  | false => rfl
  | true =>
    exfalso
    have h1 := List.all_eq_true.1 hl i (List.mem_range.2 (Array.getElem?_eq_some_iff.1 hoi).1)
    simp only [Bool.or_eq_true, beq_iff_eq] at h1
    rcases h1 with h1 | h1
    · exact hne h1.symm
    · exact unlisted hiun (before2_ready hc h1 hj)

theorem last_nil {listed : Array Bool} {i : Nat} (hc : Closed ops listed) (hl : isLast ops i = true) (hi : i ∈ Region.ready .any ops listed) : Region.ready .any ops (listed.setIfInBounds i true) = [] := by
  cases hr : Region.ready .any ops (listed.setIfInBounds i true) with
  | nil => rfl
  | cons k ks =>
    exfalso
    have hk : k ∈ Region.ready .any ops (listed.setIfInBounds i true) := by rw [hr]; exact List.mem_cons_self
    obtain ⟨hkun, ok, hok, _⟩ := mem_ready.1 hk
    obtain ⟨hiun, oi, hoi, hall⟩ := mem_ready.1 hi
    have his : i < listed.size := by
      rcases Nat.lt_or_ge i listed.size with h' | h'
      · exact h'
      · simp [Array.getElem?_eq_none h'] at hiun
    have hne : k ≠ i := by
      intro e
      subst e
      simp [his] at hkun
    rw [getD_set_ne true (Ne.symm hne)] at hkun
    have h1 := List.all_eq_true.1 hl k (List.mem_range.2 (Array.getElem?_eq_some_iff.1 hok).1)
    simp only [Bool.or_eq_true, beq_iff_eq] at h1
    rcases h1 with h1 | h1
    · exact hne h1
    · exact unlisted hkun (before2_ready hc h1 hi)

theorem wpAnyS_first {i : Nat} {oi : Oper} {v : Value} (hi : ops[i]? = some oi) (hsel : ∀ (j : Nat) (o : Oper) cs b, ops[j]? = some o → o.op ≠ .select cs b)
    (hQ : ∀ c a w, Q (.panic c) (a.put oi.dst v) w → Q (.panic c) a w) :
    ∀ (fuel : Nat) (listed : Array Bool) (a : Act) (w : World), Closed ops listed →
      (∀ j oj, ops[j]? = some oj → j ≠ i → listed.getD j true = false → (∀ e ∈ oj.after, Region.binds .any e = true → e.on ≠ i) → oi.apart ops oj = true) →
      i ∈ Region.ready .any ops listed → YieldsIf P ops S oi v a → S w →
      wpAnyS P ops Q S fuel (listed.setIfInBounds i true) (a.put oi.dst v) w → wpAnyS P ops Q S (fuel + 1) listed a w := by
  intro fuel
  induction fuel with
  | zero =>
    intro listed a w _ _ hr hy hS H
    refine ⟨fun h => (by rw [h] at hr; cases hr), fun j hj => ?_⟩
    by_cases hji : j = i
    · subst hji; exact hy.wpOp hi hS ⟨fun _ => hS, H⟩
    · have := ready_mono hj hji
      rw [H.1] at this
      cases this
  | succ fuel ih =>
    intro listed a w hc hfree hr hy hS H
    refine ⟨fun h => (by rw [h] at hr; cases hr), fun j hj => ?_⟩
    by_cases hji : j = i
    · subst hji; exact hy.wpOp hi hS ⟨fun _ => hS, H⟩
    · have h1 := H.2 j (ready_mono hj hji)
      obtain ⟨hjun, oj, hoj, hall⟩ := mem_ready.1 hj
      have hl := not_last hc hj hr hji
      have hnot : ∀ e ∈ oj.after, Region.binds .any e = true → e.on ≠ i := fun e he hb heq => by
        have h1 := hall e he hb
        have h0 := (mem_ready.1 hr).1
        rw [heq] at h1
        rcases Nat.lt_or_ge i listed.size with h' | h'
        · simp [h'] at h0 h1; rw [h0] at h1; cases h1
        · simp [Array.getElem?_eq_none h'] at h1
      have h2 := wpOp_putIf hoj (hfree j oj hoj hji hjun hnot) (fun cs b => hsel i oi cs b hi) (fun cs b => hsel j oj cs b hoj) hQ hy h1
      have hfree' : ∀ k ok, ops[k]? = some ok → k ≠ i → (listed.setIfInBounds j true).getD k true = false →
          (∀ e ∈ ok.after, Region.binds .any e = true → e.on ≠ i) → oi.apart ops ok = true := fun k ok hk hki hun hno => by
        refine hfree k ok hk hki ?_ hno
        by_cases hjk : j = k
        · subst hjk; exact hjun
        · rw [getD_set_ne true hjk] at hun; exact hun
      refine wpOp_mono (fun a' w' h3 => ?_) h2
      obtain ⟨hy', hS', h3⟩ := h3
      refine ⟨fun _ => hS' hl, ih (listed.setIfInBounds j true) a' w' (hc.set hj) hfree' (ready_mono hr (Ne.symm hji)) hy' (hS' hl) ?_⟩
      rw [Array.setIfInBounds_comm _ _ hji]
      exact h3
end

inductive Plan where
  | done
  | take (i : Nat) (p : Plan)
  | alt (i : Nat) (p q : Plan)
  | stop
  | over
/-- Behind the last operation nothing need hold. -/
def Plan.fin (ops : Array Oper) (i : Nat) : Plan → Bool
  | .done => isLast ops i
  | _ => true
/-- A plan fits a region. -/
def Plan.ok (ops : Array Oper) : Plan → Array Bool → Option (List Nat) → Bool
  | .done, listed, none => (Region.ready .any ops listed).isEmpty
  | .over, listed, none => (Region.ready .any ops listed).isEmpty
  | .take i p, listed, none => (Region.ready .any ops listed).contains i && Region.free .any ops listed i && p.ok ops (listed.setIfInBounds i true) none
  | .alt i p q, listed, none => (match Region.ready .any ops listed with
    | r :: rs => r == i && p.fin ops i && p.ok ops (listed.setIfInBounds i true) none && q.ok ops listed (some rs)
    | [] => false)
  | .alt i p q, listed, some (r :: rs) => r == i && p.fin ops i && p.ok ops (listed.setIfInBounds i true) none && q.ok ops listed (some rs)
  | .stop, _, some [] => true
  | _, _, _ => false
def lexP (n i : Nat) : Plan := Nat.rec (motive := fun _ => Nat → Plan) (fun _ => .done) (fun _ ih i => .take i (ih (i + 1))) n i
/-- All in the order of the text, the last one whatever it is. -/
def lexS (n : Nat) : Plan := Nat.rec (motive := fun _ => Nat → Plan) (fun i => .alt i .done .stop) (fun _ ih i => .take i (ih (i + 1))) (n - 1) 0
/-- In the order told; from 1000 on a call or a store, which must then be the only one that is ready. -/
noncomputable def planL (l : List Nat) : Plan := List.rec (motive := fun _ => Plan) .done (fun k _ ih => match Nat.ble 1000 k with | true => .alt (k - 1000) ih .stop | false => .take k ih) l
/-- The same, but the condition holds behind the last operation, too. -/
noncomputable def planO (l : List Nat) : Plan := List.rec (motive := fun _ => Plan) .over (fun k _ ih => match Nat.ble 1000 k with | true => .alt (k - 1000) ih .stop | false => .take k ih) l
def fits (ops : Array Oper) (p : Plan) : Bool := Region.noSelect ops && p.ok ops (Array.replicate ops.size false) none

def LdS (S : World → Prop) (ad : Addr) (K : Value → Prop) : Prop := ∃ v, (∀ w, S w → w.cell? ad = some v) ∧ K v
theorem LdS_intro {S : World → Prop} {ad : Addr} {K : Value → Prop} {v : Value} (h : ∀ w, S w → w.cell? ad = some v) (k : K v) : LdS S ad K := ⟨v, h, k⟩
theorem LdS_elim {S : World → Prop} {ad : Addr} {K : Value → Prop} (h : LdS S ad K) : ∃ v, (∀ w, S w → w.cell? ad = some v) ∧ K v := h
attribute [irreducible] LdS
def Old (w0 w : World) : Prop := ∀ k, k < w0.heap.size → w.heap[k]? = w0.heap[k]?
theorem LdS_old {w0 : World} {ad : Addr} {K : Value → Prop} {v : Value} (h : w0.cell? ad = some v) (k : K v) : LdS (Old w0) ad K :=
  LdS_intro (fun w hw => by
    have := hw ad.block (World.block_lt_of_cell? w0 ad h)
    unfold World.cell? at h ⊢
    rw [this]; exact h) k
noncomputable def LdSN (S : World → Prop) (ad : Addr) (i n : Nat) (K : List Value → Prop) : Prop :=
  Nat.rec (motive := fun _ => Nat → (List Value → Prop) → Prop) (fun _ K => K []) (fun _ ih i K => LdS S (ad.add i) fun v => ih (i + 1) fun vs => K (v :: vs)) n i K
noncomputable def takeVC (T : Tab) (S : World → Prop) (ρ : Env) (op : Op) (K : Value → Prop) : Prop :=
  match isPure T op with
  | true => pureVC T ρ op K
  | false => (match op with
    | .load t x => (match look T.recs t, ev ρ x with
      | some q, some (.pointer (some ad)) => (match q.d.agg with
        | true => LdSN S ad 0 q.size fun vs => K (.agg vs.toArray)
        | false => LdS S ad K)
      | _, _ => False)
    | _ => False)
def LastC (p : Plan) (c x : Prop) : Prop := match p with | .done => x | _ => Sd c x
noncomputable def stepVC (ops : List Oper) (i : Nat) (ρ : Env) (run : Oper → Env → Prop) (skip : Oper → Env → Prop) : Prop :=
  match ops[i]? with
  | none => False
  | some o => (match o.guard with
    | none => run o ρ
    | some (j, want) => (match dstOf ops j with
      | none => False
      | some d => (match look ρ d with
        | some (.bool b) => Br b (gd want true (run o ((d, .bool true) :: ρ)) (skip o ((d, .bool true) :: ρ))) (gd want false (run o ((d, .bool false) :: ρ)) (skip o ((d, .bool false) :: ρ)))
        | some (.tuple _) => skip o ρ
        | _ => False)))
noncomputable def planVC (P : Program) (T : Tab) (ops : Array Oper) (S : World → Prop) (p : Plan) : Env → World → (Env → World → Prop) → Prop :=
  Plan.rec (motive := fun _ => Env → World → (Env → World → Prop) → Prop)
    (fun ρ w K => K ρ w)
    (fun i _ ih ρ w K => stepVC ops.toList i ρ (fun o σ => takeVC T S σ o.op fun v => ih (σ.put o.dst v) w K) (fun o σ => ih (σ.put o.dst undef) w K))
    (fun i p _ ihp ihq ρ w K => stepVC ops.toList i ρ (fun o σ => opVC P T σ o.op o.type (fun v w' => LastC p (S w') (ihp (σ.put o.dst v) w' K)) w) (fun o σ => ihp (σ.put o.dst undef) w K) ∧ ihq ρ w K)
    (fun _ _ _ => True)
    (fun ρ w K => K ρ w) p
theorem planVC_take {P : Program} {T : Tab} {ops : Array Oper} {S : World → Prop} {i : Nat} {p : Plan} {ρ : Env} {w : World} {K : Env → World → Prop} : planVC P T ops S (.take i p) ρ w K =
  stepVC ops.toList i ρ (fun o σ => takeVC T S σ o.op fun v => planVC P T ops S p (σ.put o.dst v) w K) (fun o σ => planVC P T ops S p (σ.put o.dst undef) w K) := rfl
theorem planVC_alt {P : Program} {T : Tab} {ops : Array Oper} {S : World → Prop} {i : Nat} {p q : Plan} {ρ : Env} {w : World} {K : Env → World → Prop} : planVC P T ops S (.alt i p q) ρ w K =
  (stepVC ops.toList i ρ (fun o σ => opVC P T σ o.op o.type (fun v w' => LastC p (S w') (planVC P T ops S p (σ.put o.dst v) w' K)) w) (fun o σ => planVC P T ops S p (σ.put o.dst undef) w K) ∧ planVC P T ops S q ρ w K) := rfl

section
variable {P : Program} {T : Tab} {n : Nat} {ops : Array Oper} {S : World → Prop}

theorem LdSN_run {ad : Addr} : ∀ (m i : Nat) (acc : List Value) (K : List Value → Prop), LdSN S ad i m K →
    ∃ vs, K vs ∧ ∀ w, S w → (loadCellsFrom ad i m acc.toArray).run P w = .ok (acc ++ vs).toArray w := by
  intro m
  induction m with
  | zero => intro i acc K h; exact ⟨[], h, fun w _ => by simp [loadCellsFrom]⟩
  | succ m ih =>
    intro i acc K h
    obtain ⟨v, hv, hk⟩ := LdS_elim h
    obtain ⟨vs, hvs, hr⟩ := ih (i + 1) (acc ++ [v]) _ hk
    refine ⟨v :: vs, hvs, fun w hw => ?_⟩
    simp only [loadCellsFrom, Sem.run_bind, run_load, hv w hw, Result.andThen_ok]
    have : acc.toArray.push v = (acc ++ [v]).toArray := by simp
    rw [this, hr w hw]; simp

theorem take_sound (hT : T.Ok P) {ρ : Env} {a : Act} (hρ : ρ.Ok n a) {o : Oper} {K : Value → Prop} (h : takeVC T S ρ o.op K) :
    ∃ v, K v ∧ ∀ w, S w → (execOp a.eval o).run P w = .ok (.value v) w := by
  unfold takeVC at h
  cases hp : isPure T o.op with
  | true =>
    rw [hp] at h
    obtain ⟨v, hk, hr⟩ := pure_sound hT hρ hp h
    exact ⟨v, hk, fun w _ => hr w⟩
  | false =>
    rw [hp] at h
    obtain ⟨dst, op, type, pos, after, guard⟩ := o
    simp only at h
    split at h
    · rename_i t x
      split at h
      · rename_i q ad h1 h2
        have hagg := look_isAgg hT h1
        cases hq : q.d.agg with
        | true =>
          rw [hq] at h hagg
          obtain ⟨vs, hk, hr⟩ := LdSN_run (P := P) q.size 0 [] _ h
          refine ⟨_, hk, fun w hw => ?_⟩
          have hr := hr w hw
          simp only [List.nil_append] at hr
          simp [execOp, hρ.ev h2, Instr.loadAt, Instr.sureAddr, loadVar, hagg, look_size hT h1, loadCells, hr]
        | false =>
          rw [hq] at h hagg
          obtain ⟨v, hv, hk⟩ := LdS_elim h
          refine ⟨_, hk, fun w hw => ?_⟩
          simp [execOp, hρ.ev h2, Instr.loadAt, Instr.sureAddr, loadVar, hagg, hv w hw]
      · exact h.elim
    · exact h.elim

/-- One operation, its guard decided. -/
theorem step_cases {i : Nat} {ρ : Env} {a : Act} (hρ : ρ.Ok n a) {run skip : Oper → Env → Prop} (h : stepVC ops.toList i ρ run skip) :
    ∃ o, ops[i]? = some o ∧ ∃ σ, Env.Ok n σ a ∧ ((Region.wanted o (yielded ops a.tmps) = true ∧ run o σ) ∨ (Region.wanted o (yielded ops a.tmps) = false ∧ skip o σ)) := by
  unfold stepVC at h
  split at h
  · exact h.elim
  · rename_i o ho
    have ho' : ops[i]? = some o := by simpa using ho
    refine ⟨o, ho', ?_⟩
    split at h
    · rename_i hg
      exact ⟨ρ, hρ, .inl ⟨by simp [Region.wanted, hg], h⟩⟩
    · rename_i j want hg
      split at h
      · exact h.elim
      · rename_i d hdo
        split at h
        · rename_i b hl
          have hy := yielded_eq hρ hdo hl
          have hσ : ∀ c, b = c → Env.Ok n ((d, .bool c) :: ρ) a := fun c e => hρ.same (by rw [hl, e])
          cases b <;> cases want
          · exact ⟨_, hσ false rfl, .inl ⟨by simp [Region.wanted, hg, hy], h⟩⟩
          · exact ⟨_, hσ false rfl, .inr ⟨by simp [Region.wanted, hg, hy], h⟩⟩
          · exact ⟨_, hσ true rfl, .inr ⟨by simp [Region.wanted, hg, hy], h⟩⟩
          · exact ⟨_, hσ true rfl, .inl ⟨by simp [Region.wanted, hg, hy], h⟩⟩
        · rename_i hl
          exact ⟨ρ, hρ, .inr ⟨by simp [Region.wanted, hg, yielded_no hρ hdo hl], h⟩⟩
        · exact h.elim

/-- How many operations a plan takes at most. -/
def Plan.depth : Plan → Nat
  | .done => 0
  | .take _ p => p.depth + 1
  | .alt _ p q => max (p.depth + 1) q.depth
  | .stop => 0
  | .over => 0

theorem plan_sound (hT : T.Ok P) {Q : Exit → Act → World → Prop} {K : Env → World → Prop} (hd : ∀ o ∈ ops.toList, ∀ d, o.dst = some d → d < n)
    (hsel : ∀ (j : Nat) (o : Oper) cs b, ops[j]? = some o → o.op ≠ .select cs b)
    (hQ : ∀ ρ' a' w', Env.Ok n ρ' a' → K ρ' w' → Q .normal a' w') (hP : ∀ c a w, ¬ Q (.panic c) a w) :
    ∀ (p : Plan) (fuel : Nat) (listed : Array Bool) (rs : Option (List Nat)) (ρ : Env) (a : Act) (w : World), Closed ops listed → p.ok ops listed rs = true → p.depth ≤ fuel → ρ.Ok n a → S w → planVC P T ops S p ρ w K → (∀ l, rs = some l → ∀ i ∈ l, i ∈ Region.ready .any ops listed) →
      (rs = none → wpAnyS P ops Q S fuel listed a w) ∧
      (∀ l, rs = some l → 0 < fuel → ∀ i ∈ l, wpOp P ops Q i (fun a' w' => (isLast ops i = false → S w') ∧ wpAnyS P ops Q S (fuel - 1) (listed.setIfInBounds i true) a' w') a w) := by
  have dlt : ∀ (i : Nat) (o : Oper), ops[i]? = some o → ∀ d, o.dst = some d → d < n := fun i o ho d hdd => hd o (Array.mem_toList_iff.2 (Array.mem_of_getElem? ho)) d hdd
  intro p
  induction p with
  | done =>
    intro fuel listed rs ρ a w hc hok hf hρ hS h hrs
    cases rs with
    | some l => cases hok
    | none =>
      refine ⟨fun _ => ?_, fun l e => by cases e⟩
      have hr : Region.ready .any ops listed = [] := by simpa [Plan.ok] using hok
      cases fuel with
      | zero => exact ⟨hr, hQ _ _ _ hρ h⟩
      | succ f => exact ⟨fun _ => hQ _ _ _ hρ h, by rw [hr]; simp⟩
  | over =>
    intro fuel listed rs ρ a w hc hok hf hρ hS h hrs
    cases rs with
    | some l => cases hok
    | none =>
      refine ⟨fun _ => ?_, fun l e => by cases e⟩
      have hr : Region.ready .any ops listed = [] := by simpa [Plan.ok] using hok
      cases fuel with
      | zero => exact ⟨hr, hQ _ _ _ hρ h⟩
      | succ f => exact ⟨fun _ => hQ _ _ _ hρ h, by rw [hr]; simp⟩
  | stop =>
    intro fuel listed rs ρ a w hc hok hf hρ hS h hrs
    cases rs with
    | none => cases hok
    | some l =>
      cases l with
      | nil => exact ⟨fun e => (by cases e), fun l e _ i hi => by injection e with e; subst e; cases hi⟩
      | cons r l => cases hok
  | take i p ih =>
    intro fuel listed rs ρ a w hc hok hf hρ hS h hrs
    cases rs with
    | some l => cases l <;> cases hok
    | none =>
      refine ⟨fun _ => ?_, fun l e => by cases e⟩
      simp only [Plan.ok, Bool.and_eq_true] at hok
      obtain ⟨⟨hr, hfr⟩, hokp⟩ := hok
      simp only [Plan.depth] at hf
      obtain ⟨f, rfl⟩ : ∃ f, fuel = f + 1 := ⟨fuel - 1, by omega⟩
      rw [planVC_take] at h
      obtain ⟨o, ho, σ, hσ, hc⟩ := step_cases hρ h
      rcases hc with ⟨hw, hrun⟩ | ⟨hw, hskip⟩
      · obtain ⟨v, hk, hrv⟩ := take_sound hT hσ hrun
        have := (ih f (listed.setIfInBounds i true) none _ _ w (hc.set (by simpa using hr)) hokp (by omega) (hσ.put (dlt i o ho) v) hS hk (fun _ e => by cases e)).1 rfl
        exact wpAnyS_first ho hsel (fun c a w h => (hP _ _ _ h).elim) f listed a w hc (Region.free_spec ho hfr) (by simpa using hr) (.inl ⟨hw, hrv⟩) hS this
      · have := (ih f (listed.setIfInBounds i true) none _ _ w (hc.set (by simpa using hr)) hokp (by omega) (hσ.put (dlt i o ho) undef) hS hskip (fun _ e => by cases e)).1 rfl
        exact wpAnyS_first ho hsel (fun c a w h => (hP _ _ _ h).elim) f listed a w hc (Region.free_spec ho hfr) (by simpa using hr) (.inr ⟨hw, rfl⟩) hS this
  | alt i p q ihp ihq =>
    intro fuel listed rs ρ a w hc hok hf hρ hS h hrs
    rw [planVC_alt] at h
    obtain ⟨h1, h2⟩ := h
    simp only [Plan.depth] at hf
    have hfp : p.depth + 1 ≤ fuel := by omega
    have hfq : q.depth ≤ fuel := by omega
    have head : i ∈ Region.ready .any ops listed → p.fin ops i = true → p.ok ops (listed.setIfInBounds i true) none = true → wpOp P ops Q i (fun a' w' => (isLast ops i = false → S w') ∧ wpAnyS P ops Q S (fuel - 1) (listed.setIfInBounds i true) a' w') a w := by
      intro hir hfin hokp
      obtain ⟨o, ho, σ, hσ, hc⟩ := step_cases hρ h1
      unfold wpOp
      simp only [ho]
      rcases hc with ⟨hw, hrun⟩ | ⟨hw, hskip⟩
      · rw [if_pos hw]
        refine .inl (op_sound hT hσ (fun v w' hk => ?_) hrun)
        by_cases hd : p = .done
        · subst hd
          have hl : isLast ops i = true := hfin
          have hnil := last_nil hc hl hir
          refine ⟨fun e => (by rw [hl] at e; cases e), ?_⟩
          have hq := hQ _ _ _ (hσ.put (dlt i o ho) v) hk
          cases fuel - 1 with
          | zero => exact ⟨hnil, hq⟩
          | succ f => exact ⟨fun _ => hq, by rw [hnil]; simp⟩
        · have hk' : S w' ∧ planVC P T ops S p (σ.put o.dst v) w' K := by
            unfold LastC at hk
            split at hk
            · exact absurd rfl hd
            · unfold Sd at hk; exact hk
          exact ⟨fun _ => hk'.1, (ihp (fuel - 1) (listed.setIfInBounds i true) none _ _ w' (hc.set hir) hokp (by omega) (hσ.put (dlt i o ho) v) hk'.1 hk'.2 (fun _ e => by cases e)).1 rfl⟩
      · rw [hw, if_neg (by simp)]
        exact ⟨fun _ => hS, (ihp (fuel - 1) (listed.setIfInBounds i true) none _ _ w (hc.set hir) hokp (by omega) (hσ.put (dlt i o ho) undef) hS hskip (fun _ e => by cases e)).1 rfl⟩
    cases rs with
    | none =>
      refine ⟨fun _ => ?_, fun l e => by cases e⟩
      simp only [Plan.ok] at hok
      cases hr : Region.ready .any ops listed with
      | nil => rw [hr] at hok; cases hok
      | cons r rs =>
        rw [hr] at hok
        simp only [Bool.and_eq_true, beq_iff_eq] at hok
        obtain ⟨⟨⟨rfl, hfin⟩, hokp⟩, hokq⟩ := hok
        obtain ⟨f, rfl⟩ : ∃ f, fuel = f + 1 := ⟨fuel - 1, by omega⟩
        refine ⟨fun e => (by rw [hr] at e; cases e), fun j hj => ?_⟩
        rw [hr] at hj
        rcases List.mem_cons.1 hj with rfl | hj
        · exact head (by rw [hr]; exact List.mem_cons_self) hfin hokp
        · exact (ihq (f + 1) listed (some rs) ρ a w hc hokq hfq hρ hS h2 (fun l e j hj => by injection e with e; subst e; rw [hr]; exact List.mem_cons_of_mem _ hj)).2 rs rfl (by omega) j hj
    | some l =>
      cases l with
      | nil => cases hok
      | cons r rs =>
        simp only [Plan.ok, Bool.and_eq_true, beq_iff_eq] at hok
        obtain ⟨⟨⟨rfl, hfin⟩, hokp⟩, hokq⟩ := hok
        refine ⟨fun e => (by cases e), fun l e hpos j hj => ?_⟩
        injection e with e
        subst e
        rcases List.mem_cons.1 hj with rfl | hj
        · exact head (hrs _ rfl _ List.mem_cons_self) hfin hokp
        · exact (ihq fuel listed (some rs) ρ a w hc hokq hfq hρ hS h2 (fun l e j hj => by injection e with e; subst e; exact hrs _ rfl j (List.mem_cons_of_mem _ hj))).2 rs rfl hpos j hj

/-- The rule: a plan that fits, and what comes of it. -/
theorem AnyC_plan (hT : T.Ok P) (hm : P.follows .mixedOrders = true) {ρ : Env} {w : World} {K : Env → World → Prop} (p : Plan) (S : World → Prop) (hf : fits ops p = true) (hdep : Nat.ble p.depth ops.size = true)
    (hS : S w.drew) (h : planVC P T ops S p ρ w.drew K) : AnyC P ops ρ w K := by
  refine AnyC_mk fun n a Q hρ hd hQ hP id => wp_region_any hm ?_
  simp only [fits, Bool.and_eq_true] at hf
  have hsel := Region.noSelect_spec hf.1
  refine wpAny_of_S (S := S) _ _ _ _ ?_
  exact (plan_sound hT hd hsel hQ (fun c a w hq => by rcases hP _ _ _ hq with e | ⟨i, e⟩ | e <;> cases e) p ops.size _ none ρ a w.drew Closed.init hf.2 (Nat.le_of_ble_eq_true hdep) hρ hS h (fun _ e => by cases e)).1 rfl
/-- All operations in the order of the text, what was there before unchanged. -/
theorem AnyC_lex (hT : T.Ok P) (hm : P.follows .mixedOrders = true) {ρ : Env} {w : World} {K : Env → World → Prop} (hf : fits ops (lexP ops.size 0) = true) (hdep : Nat.ble (lexP ops.size 0).depth ops.size = true)
    (h : planVC P T ops (Old w) (lexP ops.size 0) ρ w.drew K) : AnyC P ops ρ w K :=
  AnyC_plan hT hm (lexP ops.size 0) (Old w) hf hdep (fun _ _ => rfl) h
theorem AnyC_store (hT : T.Ok P) (hm : P.follows .mixedOrders = true) {ρ : Env} {w : World} {K : Env → World → Prop} (hf : fits ops (lexS ops.size) = true) (hdep : Nat.ble (lexS ops.size).depth ops.size = true)
    (h : planVC P T ops (Old w) (lexS ops.size) ρ w.drew K) : AnyC P ops ρ w K :=
  AnyC_plan hT hm (lexS ops.size) (Old w) hf hdep (fun _ _ => rfl) h
theorem AnyC_ord (l : List Nat) (hT : T.Ok P) (hm : P.follows .mixedOrders = true) {ρ : Env} {w : World} {K : Env → World → Prop} (hf : fits ops (planL l) = true) (hdep : Nat.ble (planL l).depth ops.size = true)
    (h : planVC P T ops (Old w) (planL l) ρ w.drew K) : AnyC P ops ρ w K :=
  AnyC_plan hT hm (planL l) (Old w) hf hdep (fun _ _ => rfl) h
end
theorem LdSN_zero' {S : World → Prop} {ad : Addr} {i : Nat} {K : List Value → Prop} (h : K []) : LdSN S ad i 0 K := h
theorem LdSN_cons' {S : World → Prop} {ad : Addr} {i n : Nat} {K : List Value → Prop} (h : LdS S (ad.add i) fun v => LdSN S ad (i + 1) n fun vs => K (v :: vs)) : LdSN S ad i (n + 1) K := h
attribute [irreducible] LdSN
end Go.Vc
