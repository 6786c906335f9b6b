/- RegionStates' walk. -/
import Derived.Test.YtilhoimokegpjaaRegion4
import Derived.Test.YtilhoimokegpjaaRegion6
import Derived.Test.YtilhoimokegpjaaRef07
import Derived.Test.YtilhoimokegpjaaVcR
namespace Go.Proofs.Ytilhoimokegpjaa
open Go.Vc

/-- Every region is used for something that there is. -/
def Sane (rs : List R) : Prop := ∀ (j : Nat) (x : R), rs[j]? = some x → 0 ≤ x.1 ∧ x.1 ≤ 5
theorem Sane.set {rs : List R} (h : Sane rs) (k : Nat) (y : R) (hy : 0 ≤ y.1 ∧ y.1 ≤ 5) : Sane (rs.set k y) := by
  intro j x hx
  rw [List.getElem?_set] at hx
  split at hx
  · split at hx
    · injection hx with hx; subst hx; exact hy
    · cases hx
  · exact h j x hx
theorem setTop_sane {words i top : Int} {rs : List R} (h : Sane rs) : Sane (setTopF words i top rs).2 ∧ (setTopF words i top rs).2.length = rs.length := by
  unfold setTopF
  cases hx : rget rs i with
  | none => exact ⟨h, rfl⟩
  | some x =>
    have hr := (rget_some hx).2.2
    simp only
    split
    · exact ⟨h, rfl⟩
    · split
      · exact ⟨h.set _ _ (show 0 ≤ x.1 ∧ x.1 ≤ 5 from h _ _ hr), by simp⟩
      · exact ⟨h, rfl⟩
theorem mark_sane {i : Int} {rs : List R} (h : Sane rs) : Sane (markF i rs).2 ∧ (markF i rs).2.length = rs.length := by
  unfold markF
  cases hx : rget rs i with
  | none => exact ⟨h, rfl⟩
  | some x =>
    have hr := (rget_some hx).2.2
    exact ⟨h.set _ _ (show 0 ≤ x.1 ∧ x.1 ≤ 5 from h _ _ hr), by simp⟩
theorem turn_sane {i s : Int} {rs : List R} (h : Sane rs) : Sane (turnF i s rs).2 ∧ (turnF i s rs).2.length = rs.length := by
  unfold turnF
  cases hx : rget rs i with
  | none => exact ⟨h, rfl⟩
  | some x =>
    simp only
    split
    · rename_i g
      have := g.2
      unfold plainP at this
      exact ⟨h.set _ _ (by show 0 ≤ s ∧ s ≤ 5; omega), by simp⟩
    · exact ⟨h, rfl⟩
theorem release_sane {i : Int} {rs : List R} (h : Sane rs) : Sane (releaseF i rs).2 ∧ (releaseF i rs).2.length = rs.length := by
  unfold releaseF
  cases hx : rget rs i with
  | none => exact ⟨h, rfl⟩
  | some x =>
    simp only
    split
    · exact ⟨h, rfl⟩
    · exact ⟨h.set _ _ (by show (0 : Int) ≤ 0 ∧ (0 : Int) ≤ 5; omega), by simp⟩
theorem bump_sane {words i n : Int} {rs : List R} (h : Sane rs) : Sane (bumpF words i n rs).2.2 ∧ (bumpF words i n rs).2.2.length = rs.length := by
  unfold bumpF
  cases hx : rget rs i with
  | none => exact ⟨h, rfl⟩
  | some x =>
    have hr := (rget_some hx).2.2
    simp only
    split
    · exact ⟨h, rfl⟩
    · split
      · exact ⟨h, rfl⟩
      · split
        · exact ⟨h, rfl⟩
        · exact ⟨h.set _ _ (show 0 ≤ x.1 ∧ x.1 ≤ 5 from h _ _ hr), by simp⟩
theorem claimed_sane {s : Int} {rs rs' : List R} {v : Value} (h : Sane rs) (hs : plainP s) (hc : Claimed s rs rs' v) : Sane rs' ∧ rs'.length = rs.length := by
  unfold plainP at hs
  rcases hc with ⟨k, x, hx, _, _, rfl, _⟩ | ⟨_, rfl, _⟩
  · exact ⟨h.set _ _ (by show 0 ≤ s ∧ s ≤ 5; omega), by simp⟩
  · exact ⟨h, rfl⟩
theorem held_sane {words k size : Int} {rs rs' : List R} (h : Sane rs) (hc : held words k size rs rs') : Sane rs' ∧ rs'.length = rs.length := by
  obtain ⟨hl, hc⟩ := hc
  refine ⟨fun j x hx => ?_, hl⟩
  have hj : j < rs.length := by have := (List.getElem?_eq_some_iff.1 hx).1; omega
  rw [hc j _ (List.getElem?_eq_getElem hj)] at hx
  injection hx with hx
  subst hx
  split
  · show 0 ≤ (if (j : Int) = k then 4 else 5 : Int) ∧ (if (j : Int) = k then 4 else 5 : Int) ≤ 5
    split <;> omega
  · exact h j _ (List.getElem?_eq_getElem hj)
structure St7 (w : World) (b r b' r' : Nat) (rs : List R) : Prop where
  t : IsReg w b r 64 rs
  m : Is7 w b' r' 4
  sane : Sane rs
  four : rs.length = 4
section
variable {b r b' r' : Nat}
theorem St7.keep {w w' : World} {rs : List R} {F : Nat → Prop} (h : St7 w b r b' r' rs) (f : Fr F w w') (hF : ¬ F b ∧ ¬ F r ∧ ¬ F b' ∧ ¬ F r') : St7 w' b r b' r' rs := ⟨h.t.keep f hF.1 hF.2.1, h.m.keep f hF.2.2.1 hF.2.2.2, h.sane, h.four⟩
theorem step7_spec {rs : List R} (k A B S : Int) (w : World) (h : St7 w b r b' r' rs) (hne : b ≠ r' ∧ b' ≠ r ∧ r ≠ r') (hA : -9223372036854775808 ≤ A ∧ A ≤ 9223372036854775807) (hB : -9223372036854775808 ≤ B ∧ B ≤ 9223372036854775807) :
    CallC Pr f_gleanerlaw07_step [.pointer (some ⟨b, 0, none⟩), .pointer (some ⟨b', 0, none⟩), .agg #[.int .i64 k, .int .i64 A, .int .i64 B, .int .i64 S]] w
      (fun _ w' => (∃ rs', St7 w' b r b' r' rs') ∧ Fr (fun k => k = r ∨ k = r') w w') := by
  obtain ⟨n1, n2, n3⟩ := hne
  refine call_sound T_ok fun_gleanerlaw07_step rfl (by kernel_rfl) rfl (Kp ?_)
  refine NewC_blk (fun p w1 hp h1 f1 _ => ?_)
  have h1 : Blk w1 p t_gleanerlaw07_Act [.int .i64 k, .int .i64 A, .int .i64 B, .int .i64 S] := h1
  have h2 := h.keep f1 ⟨id, id, id, id⟩
  have pr : p ≠ r ∧ p ≠ r' := ⟨by have := h.t.row.lt; omega, by obtain ⟨_, _, _, hh, _⟩ := h.m; have := hh.lt; omega⟩
  have rb : r ≠ b := fun e => h.t.ne e.symm
  have rb' : r' ≠ b' := by obtain ⟨_, _, _, hh, hh2, _⟩ := h.m; exact fun e => one_tab hh hh2 e.symm
  have fin : ∀ (w2 w3 : World) (rs' : List R), IsReg w2 b r 64 rs' → Fr (· = r) w1 w2 → Sane rs' → rs'.length = 4 → Is7 w3 b' r' 4 → Fr (· = r') w2 w3 → (∃ rs', St7 w3 b r b' r' rs') ∧ Fr (fun k => k = r ∨ k = r') w w3 := by
    intro w2 w3 rs' g1 g2 g3 g4 g5 g6
    refine ⟨⟨rs', g1.keep g6 n1 n3, g5, g3, g4⟩, ?_⟩
    exact f1.noL (g2.trans g6 (fun _ _ e => .inl e) (fun _ _ e => .inr e))
  have four := h.four
  refine LdC_blk h1 rfl ?_
  refine Sd_intro (by omega) ?_
  refine Sd_intro (by omega) ?_
  refine Br_dec (fun q0 => ?_) (fun q0 => ?_)
  · refine LdC_blk h1 rfl ?_
    refine CallC_intro (Claim_any S w1 h2.t) (fun v w2 ⟨rs', hc, h3, f2⟩ => ?_)
    have hs : (Sane rs' ∧ rs'.length = 4) ∧ ∃ a e : Int, v = .tuple #[.int .i64 a, .int .i64 e] := by
      rcases hc with ⟨hp, hc⟩ | ⟨_, rfl, rfl⟩
      · have := claimed_sane h.sane hp hc
        refine ⟨⟨this.1, by rw [this.2, four]⟩, ?_⟩
        rcases hc with ⟨k, x, _, _, _, _, rfl⟩ | ⟨_, _, rfl⟩
        · exact ⟨_, _, rfl⟩
        · exact ⟨_, _, rfl⟩
      · exact ⟨⟨h.sane, four⟩, _, _, rfl⟩
    obtain ⟨hs, a, e, rfl⟩ := hs
    refine LdC_blk (h1.keep f2 pr.1) rfl ?_
    refine CallC_intro (Claim7_spec S w2 (h2.m.keep f2 n2 (fun e => n3 e.symm))) (fun v w3 ⟨⟨a', e', hv⟩, h4, f3⟩ => ?_)
    subst hv
    refine Br_dec (fun _ => ?_) (fun _ => ?_)
    · exact fin w2 w3 rs' h3 f2 hs.1 hs.2 h4 f3
    · exact fin w2 w3 rs' h3 f2 hs.1 hs.2 h4 f3
  refine Br_dec (fun q1 => ?_) (fun q1 => ?_)
  · refine LdC_blk h1 rfl ?_
    refine LdC_blk h1 rfl ?_
    refine CallC_intro (Run_any A B w1 h2.t hA hB.2 (by omega)) (fun v w2 ⟨rs', hc, h3, f2⟩ => ?_)
    have hs : (Sane rs' ∧ rs'.length = 4) ∧ ∃ a e : Int, v = .tuple #[.int .i64 a, .int .i64 e] := by
      rcases hc with ⟨_, _, _, ⟨k, _, _, hc, rfl⟩ | ⟨_, rfl, rfl⟩⟩ | ⟨_, rfl, rfl⟩
      · have := held_sane h.sane hc
        exact ⟨⟨this.1, by rw [this.2, four]⟩, _, _, rfl⟩
      · exact ⟨⟨h.sane, four⟩, _, _, rfl⟩
      · exact ⟨⟨h.sane, four⟩, _, _, rfl⟩
    obtain ⟨hs, a, e, rfl⟩ := hs
    refine LdC_blk (h1.keep f2 pr.1) rfl ?_
    refine LdC_blk (h1.keep f2 pr.1) rfl ?_
    refine CallC_intro (Run7_spec A B w2 (h2.m.keep f2 n2 (fun e => n3 e.symm)) hB.2 hA) (fun v w3 ⟨⟨a', e', hv⟩, h4, f3⟩ => ?_)
    subst hv
    refine Br_dec (fun _ => ?_) (fun _ => ?_)
    · exact fin w2 w3 rs' h3 f2 hs.1 hs.2 h4 f3
    · exact fin w2 w3 rs' h3 f2 hs.1 hs.2 h4 f3
  refine Br_dec (fun q2 => ?_) (fun q2 => ?_)
  · refine LdC_blk h1 rfl ?_
    refine LdC_blk h1 rfl ?_
    refine CallC_intro (Bump_any A B w1 h2.t) (fun v w2 ⟨hv, h3, f2⟩ => ?_)
    subst hv
    have hs := bump_sane (words := 64) (i := A) (n := B) h.sane
    refine LdC_blk (h1.keep f2 pr.1) rfl ?_
    refine LdC_blk (h1.keep f2 pr.1) rfl ?_
    refine CallC_intro (Bump7_spec A B w2 (h2.m.keep f2 n2 (fun e => n3 e.symm))) (fun v w3 ⟨⟨a', e', hv⟩, h4, f3⟩ => ?_)
    subst hv
    refine Br_dec (fun _ => ?_) (fun _ => ?_)
    · exact fin w2 w3 _ h3 f2 hs.1 (hs.2.trans four) h4 f3
    · exact fin w2 w3 _ h3 f2 hs.1 (hs.2.trans four) h4 f3
  have S1 : ∀ {w2 : World}, Fr (fun k => k = r ∨ k = r') w1 w2 → Blk w2 p t_gleanerlaw07_Act [.int .i64 k, .int .i64 A, .int .i64 B, .int .i64 S] := fun f => h1.keep f (fun e => by rcases e with e | e; exact pr.1 e; exact pr.2 e)
  refine Br_dec (fun q3 => ?_) (fun q3 => ?_)
  · refine AnyC_plan T_ok mixed (planL [0,1,2,3,4,6,7,8,9,10,1005,1011,12,13]) (fun w' => Blk w' p t_gleanerlaw07_Act [.int .i64 k, .int .i64 A, .int .i64 B, .int .i64 S]) (by kernel_rfl) (by kernel_rfl) (h1.keep (Fr.drew w1) id) (Kp ?_)
    refine LdS_intro (fun w' hw => Blk.cell hw (o := 1) rfl) ?_
    refine LdS_intro (fun w' hw => Blk.cell hw (o := 2) rfl) ?_
    refine LdS_intro (fun w' hw => Blk.cell hw (o := 1) rfl) ?_
    refine LdS_intro (fun w' hw => Blk.cell hw (o := 2) rfl) ?_
    refine ⟨?_, trivial⟩
    refine CallC_intro (SetTop_spec A B w1.drew (h2.t.keep (Fr.drew w1) id id)) (fun v w2 ⟨hv, h3, f2⟩ => ?_)
    subst hv
    have f2 := f2.drewL
    have hs := setTop_sane (words := 64) (i := A) (top := B) h.sane
    refine Sd_intro (h1.keep f2 pr.1) ?_
    refine ⟨?_, trivial⟩
    refine CallC_intro (SetTop7_spec A B w2 (h2.m.keep f2 n2 (fun e => n3 e.symm))) (fun v w3 ⟨⟨e', hv⟩, h4, f3⟩ => ?_)
    subst hv
    refine Sd_intro ((h1.keep f2 pr.1).keep f3 pr.2) ?_
    exact fin w2 w3 _ h3 f2 hs.1 (hs.2.trans four) h4 f3
  refine Br_dec (fun q4 => ?_) (fun q4 => ?_)
  · refine AnyC_plan T_ok mixed (planL [0,1,2,4,5,6,1003,1007,8,9]) (fun w' => Blk w' p t_gleanerlaw07_Act [.int .i64 k, .int .i64 A, .int .i64 B, .int .i64 S]) (by kernel_rfl) (by kernel_rfl) (h1.keep (Fr.drew w1) id) (Kp ?_)
    refine LdS_intro (fun w' hw => Blk.cell hw (o := 1) rfl) ?_
    refine LdS_intro (fun w' hw => Blk.cell hw (o := 1) rfl) ?_
    refine ⟨?_, trivial⟩
    refine CallC_intro (Mark_spec A w1.drew (h2.t.keep (Fr.drew w1) id id)) (fun v w2 ⟨hv, h3, f2⟩ => ?_)
    subst hv
    have f2 := f2.drewL
    have hs := mark_sane (i := A) h.sane
    refine Sd_intro (h1.keep f2 pr.1) ?_
    refine ⟨?_, trivial⟩
    refine CallC_intro (Mark7_spec A w2 (h2.m.keep f2 n2 (fun e => n3 e.symm))) (fun v w3 ⟨⟨e', hv⟩, h4, f3⟩ => ?_)
    subst hv
    refine Sd_intro ((h1.keep f2 pr.1).keep f3 pr.2) ?_
    exact fin w2 w3 _ h3 f2 hs.1 (hs.2.trans four) h4 f3
  refine Br_dec (fun q5 => ?_) (fun q5 => ?_)
  · refine AnyC_plan T_ok mixed (planL [0,1,2,3,4,6,7,8,9,10,1005,1011,12,13]) (fun w' => Blk w' p t_gleanerlaw07_Act [.int .i64 k, .int .i64 A, .int .i64 B, .int .i64 S]) (by kernel_rfl) (by kernel_rfl) (h1.keep (Fr.drew w1) id) (Kp ?_)
    refine LdS_intro (fun w' hw => Blk.cell hw (o := 1) rfl) ?_
    refine LdS_intro (fun w' hw => Blk.cell hw (o := 3) rfl) ?_
    refine LdS_intro (fun w' hw => Blk.cell hw (o := 1) rfl) ?_
    refine LdS_intro (fun w' hw => Blk.cell hw (o := 3) rfl) ?_
    refine ⟨?_, trivial⟩
    refine CallC_intro (Turn_spec A S w1.drew (h2.t.keep (Fr.drew w1) id id)) (fun v w2 ⟨hv, h3, f2⟩ => ?_)
    subst hv
    have f2 := f2.drewL
    have hs := turn_sane (i := A) (s := S) h.sane
    refine Sd_intro (h1.keep f2 pr.1) ?_
    refine ⟨?_, trivial⟩
    refine CallC_intro (Turn7_spec A S w2 (h2.m.keep f2 n2 (fun e => n3 e.symm))) (fun v w3 ⟨⟨e', hv⟩, h4, f3⟩ => ?_)
    subst hv
    refine Sd_intro ((h1.keep f2 pr.1).keep f3 pr.2) ?_
    exact fin w2 w3 _ h3 f2 hs.1 (hs.2.trans four) h4 f3
  · refine AnyC_plan T_ok mixed (planL [0,1,2,4,5,6,1003,1007,8,9]) (fun w' => Blk w' p t_gleanerlaw07_Act [.int .i64 k, .int .i64 A, .int .i64 B, .int .i64 S]) (by kernel_rfl) (by kernel_rfl) (h1.keep (Fr.drew w1) id) (Kp ?_)
    refine LdS_intro (fun w' hw => Blk.cell hw (o := 1) rfl) ?_
    refine LdS_intro (fun w' hw => Blk.cell hw (o := 1) rfl) ?_
    refine ⟨?_, trivial⟩
    refine CallC_intro (Release_spec A w1.drew (h2.t.keep (Fr.drew w1) id id)) (fun v w2 ⟨hv, h3, f2⟩ => ?_)
    subst hv
    have f2 := f2.drewL
    have hs := release_sane (i := A) h.sane
    refine Sd_intro (h1.keep f2 pr.1) ?_
    refine ⟨?_, trivial⟩
    refine CallC_intro (Release7_spec A w2 (h2.m.keep f2 n2 (fun e => n3 e.symm))) (fun v w3 ⟨⟨e', hv⟩, h4, f3⟩ => ?_)
    subst hv
    refine Sd_intro ((h1.keep f2 pr.1).keep f3 pr.2) ?_
    exact fin w2 w3 _ h3 f2 hs.1 (hs.2.trans four) h4 f3
end
theorem idxs_at {s : Int} {rs : List R} {n k : Nat} {z : Int} (h : (idxs s rs n)[k]? = some z) : ∃ (j : Nat) (x : R), z = (j : Int) ∧ j < n ∧ rs[j]? = some x ∧ x.1 = s := by
  have hm := List.mem_of_getElem? h
  unfold idxs at hm
  obtain ⟨j, hj, rfl⟩ := List.mem_map.1 hm
  obtain ⟨h1, h2⟩ := List.mem_filter.1 hj
  have h2 := of_decide_eq_true h2
  cases hx : rs[j]? with
  | none => rw [hx] at h2; cases h2
  | some x =>
    rw [hx] at h2
    injection h2 with h2
    exact ⟨j, x, rfl, List.mem_range.1 h1, hx, h2⟩
/-- How many regions are used for what stands below m. -/
def below (rs : List R) (n : Nat) : Nat → Nat
  | 0 => 0
  | m + 1 => below rs n m + (idxs (m : Int) rs n).length
theorem below_all {rs : List R} (h : Sane rs) : ∀ n, n ≤ rs.length → below rs n 6 = n := by
  intro n
  induction n with
  | zero => intro _; rfl
  | succ n ih =>
    intro hn
    have ih := ih (by omega)
    have hx := List.getElem?_eq_getElem (show n < rs.length by omega)
    generalize rs[n] = x at hx
    have hb := h n x hx
    have e : ∀ s : Int, (idxs s rs (n + 1)).length = (idxs s rs n).length + (if x.1 = s then 1 else 0) := fun s => by
      rw [idxs_succ s rs n x hx]; split <;> simp
    simp only [below, e] at ih ⊢
    have : x.1 = 0 ∨ x.1 = 1 ∨ x.1 = 2 ∨ x.1 = 3 ∨ x.1 = 4 ∨ x.1 = 5 := by omega
    rcases this with h | h | h | h | h | h <;> simp [h] at ih ⊢ <;> omega
theorem below_le {rs : List R} (h : Sane rs) (m : Nat) (hm : m ≤ 6) : below rs rs.length m ≤ rs.length := by
  have h6 := below_all h rs.length (Nat.le_refl _)
  simp only [below] at h6
  have : m = 0 ∨ m = 1 ∨ m = 2 ∨ m = 3 ∨ m = 4 ∨ m = 5 ∨ m = 6 := by omega
  rcases this with rfl | rfl | rfl | rfl | rfl | rfl | rfl <;> simp only [below] <;> omega
def act7 : List (Option IntKind) := [some .i64, some .i64, some .i64, some .i64]
theorem act7_row {cs : List Value} (h : LeafRow act7 cs) : ∃ (k a b s : Int), cs = [.int .i64 k, .int .i64 a, .int .i64 b, .int .i64 s] ∧ (-9223372036854775808 ≤ a ∧ a ≤ 9223372036854775807) ∧ (-9223372036854775808 ≤ b ∧ b ≤ 9223372036854775807) := by
  have wf : ∀ z : Int, (Lit.int .i64 z).wf = true → -9223372036854775808 ≤ z ∧ z ≤ 9223372036854775807 := fun z h => by
    simp [Lit.wf, IntKind.min, IntKind.max, IntKind.signed, IntKind.bits] at h; omega
  obtain ⟨v0, r0, rfl, ⟨k, rfl, h0⟩, g0⟩ := h.cons
  obtain ⟨v1, r1, rfl, ⟨a, rfl, h1⟩, g1⟩ := g0.cons
  obtain ⟨v2, r2, rfl, ⟨b, rfl, h2⟩, g2⟩ := g1.cons
  obtain ⟨v3, r3, rfl, ⟨s, rfl, h3⟩, g3⟩ := g2.cons
  obtain rfl := g3.nil
  exact ⟨k, a, b, s, rfl, wf a h1, wf b h2⟩
theorem toNat_up {s : Int} (h : 0 ≤ s) : (s + 1).toNat = s.toNat + 1 := by omega
set_option maxHeartbeats 4000000 in
theorem RegionStates_spec (ad : Option Addr) (len cap : Nat) (css : List (List Value)) (w : World) (hr : RowsArg w 4 ad len css) (hk : ∀ cs ∈ css, LeafRow act7 cs) (hl : len ≤ 9223372036854775807) :
    CallC Pr f_gleanerlaw07_RegionStates [.slice ad len cap] w (fun v w' => v = .bool true ∧ Fr No w w') := by
  refine call_sound T_ok fun_gleanerlaw07_RegionStates rfl (by kernel_rfl) rfl (Kp ?_)
  refine CallC_intro (awake7_spec w) (fun v w1 ⟨hv, f1⟩ => ?_)
  subst hv
  refine CallC_intro (small7_spec w1) (fun v w2 ⟨hv, f2⟩ => ?_)
  subst hv
  refine CallC_intro (region_New_spec w2) (fun v w3 ⟨b, r, hv, hR, f3, hb, hrr⟩ => ?_)
  subst hv
  refine CallC_intro (small7_spec w3) (fun v w4 ⟨hv, f4⟩ => ?_)
  subst hv
  refine CallC_intro (ref07_New_spec w4) (fun v w5 ⟨b', r', hv, hM, f5, hb', hrr'⟩ => ?_)
  subst hv
  have k2 := f1.no f2
  have k4 := (k2.no f3).no f4
  have k5 := k4.no f5
  have s2 := k2.size
  have s3 := f3.size
  have s4 := f4.size
  have hbl := hR.tab.lt
  have hrl := hR.row.lt
  have hne : b ≠ r' ∧ b' ≠ r ∧ r ≠ r' := by omega
  have h0 : St7 w5 b r b' r' zero4 := ⟨(hR.keep f4 id id).keep f5 id id, hM, fun j x hx => by
    have : x = (0, 0, 0) := by
      have := List.mem_of_getElem? hx
      simp [zero4] at this
      exact this
    subst this; exact ⟨Int.le_refl _, by decide⟩, rfl⟩
  refine LoopC_intro (α := Int) (fun i => [(0, .slice ad len cap), (3, .pointer (some ⟨b, 0, none⟩)), (5, .pointer (some ⟨b', 0, none⟩)), (7, .int .i64 i)])
    (fun m i w6 => (∃ rs, St7 w6 b r b' r' rs) ∧ Fr No w w6 ∧ w5.heap.size ≤ w6.heap.size ∧ 0 ≤ i ∧ i ≤ len ∧ m = (len - i).toNat)
    (len - 0 : Int).toNat 0 ⟨rfl, rfl, rfl, rfl, trivial⟩ ⟨⟨_, h0⟩, k5, Nat.le_refl _, Int.le_refl _, (show (0 : Int) ≤ len by omega), rfl⟩ (fun m i w6 hJ => Kp ?_)
  obtain ⟨⟨rs0, hS0⟩, f6, s6, i0, i1, hm⟩ := hJ
  have i0 : 0 ≤ i := i0
  have i1 : i ≤ len := i1
  refine Br_dec (fun g => ?_) (fun g => ?_)
  · have g : i < (len : Int) := g
    refine Br_dec (fun g1 => ?_) (fun g1 => ?_)
    · have g1 : i < 100 := g1
      obtain ⟨x, cs, rfl, hcs, hcell⟩ := (hr.keep f6).at (show i.toNat < len by omega)
      obtain ⟨kk, A, B, S, rfl, bA, bB⟩ := act7_row (hk cs (List.mem_of_getElem? hcs))
      refine Sd_intro (show 0 ≤ i ∧ i < (len : Int) by omega) ?_
      refine LdN_cells hcell rfl ?_
      refine CallC_intro (step7_spec kk A B S w6 hS0 hne bA bB) (fun v w7 ⟨⟨rs, hS⟩, f7⟩ => ?_)
      have k7 : Fr No w w7 := f6.new f7 (fun _ _ e => e) (fun k e => by rcases e with e | e <;> omega)
      have s7 := f7.size
      have four := hS.four
      have hr'l : r' < w7.heap.size := by obtain ⟨_, _, _, hh, _⟩ := hS.m; exact hh.lt
      have hb'l : b' < w7.heap.size := by obtain ⟨_, _, _, _, hh, _⟩ := hS.m; exact hh.lt
      refine LoopC_intro (α := Int × Int) (fun q => [(0, .slice (some x) len cap), (3, .pointer (some ⟨b, 0, none⟩)), (5, .pointer (some ⟨b', 0, none⟩)), (7, .int .i64 i), (8, .int .i64 q.1), (9, .int .i64 q.2)])
        (fun m q w8 => St7 w8 b r b' r' rs ∧ Fr No w w8 ∧ w7.heap.size ≤ w8.heap.size ∧ 0 ≤ q.2 ∧ q.2 ≤ 6 ∧ q.1 = ((below rs 4 q.2.toNat : Nat) : Int) ∧ m = (6 - q.2).toNat)
        (6 - 0 : Int).toNat (0, 0) ⟨rfl, rfl, rfl, rfl, rfl, rfl, trivial⟩ ⟨hS, k7, Nat.le_refl _, Int.le_refl _, (show (0 : Int) ≤ 6 by decide), rfl, rfl⟩ (fun m2 q w8 hJ2 => Kp ?_)
      obtain ⟨n, s⟩ := q
      obtain ⟨hS8, k8, s8, t0, t1, hn, hm2⟩ := hJ2
      have t0 : 0 ≤ s := t0
      have t1 : s ≤ 6 := t1
      have hn : n = ((below rs 4 s.toNat : Nat) : Int) := hn
      have hm2 : m2 = (6 - s).toNat := hm2
      refine Br_dec (fun g2 => ?_) (fun g2 => ?_)
      · have g2 : s ≤ 5 := g2
        refine CallC_intro (region_List_spec s w8 hS8.t) (fun v w9 ⟨o9, f9⟩ => ?_)
        rw [four] at o9
        have hbel := below_le hS.sane (s.toNat + 1) (by omega)
        rw [four] at hbel
        have eb : below rs 4 (s.toNat + 1) = below rs 4 s.toNat + (idxs s rs 4).length := by
          simp only [below]; rw [show ((s.toNat : Nat) : Int) = s by omega]
        have o9' : Own w9 w8.heap.size v (idxs s rs 4) := o9
        have s9 := f9.size
        have start : (idxs s rs 4).length = 0 ∨ ∃ g cap2 cur, v = .slice (some ⟨g, 0, none⟩) (idxs s rs 4).length cap2 ∧ w8.heap.size ≤ g ∧ Blk w9 g t_int cur ∧ cur.take (idxs s rs 4).length = ints (idxs s rs 4) := by
          rcases own_cases o9 with ⟨_, h0, _⟩ | ⟨g, cap2, cur, hv, hb, hblk, ht, hn⟩
          · exact .inl h0
          · exact .inr ⟨g, cap2, cur, hv, hb, hblk, by rw [Nat.mul_one] at ht; exact ht⟩
        obtain ⟨a2, c2, rfl, _⟩ := o9'.ints
        have en : IntKind.i64.wrap (n + ((idxs s rs 4).length : Int)) = ((below rs 4 (s.toNat + 1) : Nat) : Int) := by
          rw [wrap_i64 (by omega) (by omega), eb, hn]; omega
        have es : IntKind.i64.wrap (s + 1) = s + 1 := wrap_i64 (by omega) (by omega)
        refine LoopC_intro (α := Int) (fun k => [(0, .slice (some x) len cap), (3, .pointer (some ⟨b, 0, none⟩)), (5, .pointer (some ⟨b', 0, none⟩)), (7, .int .i64 i), (8, .int .i64 ((below rs 4 (s.toNat + 1) : Nat) : Int)), (9, .int .i64 s), (10, .slice a2 (idxs s rs 4).length c2), (11, .int .i64 k)])
          (fun m k w10 => Fr (fun j => w8.heap.size ≤ j) w8 w10 ∧ 0 ≤ k ∧ k ≤ (idxs s rs 4).length ∧ ((idxs s rs 4).length = 0 ∨ ∃ g cur, a2 = some ⟨g, 0, none⟩ ∧ w8.heap.size ≤ g ∧ Blk w10 g t_int cur ∧
            ∀ j : Nat, j < (idxs s rs 4).length → cur[j]? = if (j : Int) < k then some (.int .i64 (-1)) else (ints (idxs s rs 4))[j]?) ∧ m = ((idxs s rs 4).length - k).toNat)
          ((idxs s rs 4).length - 0 : Int).toNat 0 ⟨rfl, rfl, rfl, rfl, look_int rfl en, rfl, rfl, rfl, trivial⟩
          ⟨f9.weak (fun _ _ e => e.elim), Int.le_refl _, (show (0 : Int) ≤ ((idxs s rs 4).length : Int) by omega), ?_, rfl⟩ (fun m3 k w10 hJ3 => Kp ?_)
        · rcases start with h0 | ⟨g, cap2, cur, hv, h1, h2, h3⟩
          · exact .inl h0
          · injection hv with e1 e2 e3
            refine .inr ⟨g, cur, e1, h1, h2, fun j hj => ?_⟩
            rw [if_neg (show ¬ (j : Int) < 0 by omega), ← h3, List.getElem?_take, if_pos hj]
        · clear start
          obtain ⟨f10, k0, k1, hcur, hm3⟩ := hJ3
          have k0 : 0 ≤ k := k0
          have k1 : k ≤ ((idxs s rs 4).length : Int) := k1
          have hS10 := hS8.keep f10 ⟨by show ¬ w8.heap.size ≤ b; omega, by show ¬ w8.heap.size ≤ r; omega, by show ¬ w8.heap.size ≤ b'; omega, by show ¬ w8.heap.size ≤ r'; omega⟩
          refine Br_dec (fun g4 => ?_) (fun g4 => ?_)
          · have g4 : k < ((idxs s rs 4).length : Int) := g4
            rcases hcur with h0 | ⟨gb, cur, rfl, h1, h2, h3⟩
            · omega
            have hkl : k.toNat < (idxs s rs 4).length := by omega
            have hzk := List.getElem?_eq_getElem hkl
            obtain ⟨j, y, ez, hj4, hy, hys⟩ := idxs_at hzk
            have hck := h3 k.toNat hkl
            rw [if_neg (show ¬ ((k.toNat : Nat) : Int) < k by omega), ints_get? hzk, ez] at hck
            have hck' : cur[0 + k.toNat * 1]? = some (.int .i64 (j : Int)) := by rw [Nat.zero_add, Nat.mul_one]; exact hck
            have hu := hS.t.us y (List.mem_of_getElem? hy)
            have hyj : rs[((j : Nat) : Int).toNat]? = some y := by rw [Int.toNat_natCast]; exact hy
            refine AnyC_ord [0,1,2,3,4,6,1005,7,8,9,10,11,12,13,14,15,16,17,18,19,20,21,22,23,24,25,26,27,28,29,31,32,33,34,35,1030,36,37,38,39,40,41,42,43,45,46,47,48,49,50,1044,51,52] T_ok mixed (by kernel_rfl) (by kernel_rfl) (Kp ?_)
            refine Sd_intro (show 0 ≤ k ∧ k < ((idxs s rs 4).length : Int) by omega) ?_
            refine LdS_idx h2 hck' ?_
            refine ⟨?_, trivial⟩
            refine CallC_intro (State_spec (j : Int) w10.drew (hS10.t.keep (Fr.drew w10) id id) (by omega) hyj) (fun v w11 ⟨hv, f11⟩ => ?_)
            rw [hys] at hv
            subst hv
            have f11 := (Fr.drew w10).no f11
            refine Sd_intro f11.old ?_
            refine Br_nf rfl ?_
            refine Br_dec (fun g5 => ?_) (fun g5 => ?_)
            · have g5 : k > 0 := g5
              have hck1 : cur[0 + (IntKind.i64.wrap (k - 1)).toNat * 1]? = some (.int .i64 (-1)) := by
                rw [wrap_i64 (by omega) (by omega), Nat.zero_add, Nat.mul_one, h3 _ (by omega), if_pos (by omega)]
              refine Sd_intro (show 0 ≤ k ∧ k < ((idxs s rs 4).length : Int) by omega) ?_
              refine LdS_idx h2 hck' ?_
              refine Sd_intro (show 0 ≤ IntKind.i64.wrap (k - 1) ∧ IntKind.i64.wrap (k - 1) < ((idxs s rs 4).length : Int) by rw [wrap_i64 (by omega) (by omega)]; omega) ?_
              refine LdS_idx h2 hck1 ?_
              refine Br_df (show ¬ (j : Int) ≤ -1 by omega) ?_
              refine Sd_intro (show 0 ≤ k ∧ k < ((idxs s rs 4).length : Int) by omega) ?_
              refine LdS_idx h2 hck' ?_
              refine Sd_intro (show 0 ≤ k ∧ k < ((idxs s rs 4).length : Int) by omega) ?_
              refine LdS_idx h2 hck' ?_
              refine ⟨?_, trivial⟩
              refine CallC_intro (Top_spec (j : Int) w11 (hS10.t.keep f11 id id) (by omega) hyj) (fun v w12 ⟨hv, f12⟩ => ?_)
              subst hv
              have f12 := f11.no f12
              refine Sd_intro f12.old ?_
              refine Br_df (show ¬ (j : Int) * 64 + y.2.1 < IntKind.i64.wrap (64 * (j : Int)) by rw [wrap_i64 (by omega) (by omega)]; omega) ?_
              refine Sd_intro (show 0 ≤ k ∧ k < ((idxs s rs 4).length : Int) by omega) ?_
              refine LdS_idx h2 hck' ?_
              refine Sd_intro (show 0 ≤ k ∧ k < ((idxs s rs 4).length : Int) by omega) ?_
              refine LdS_idx h2 hck' ?_
              refine ⟨?_, trivial⟩
              refine CallC_intro (Top_spec (j : Int) w12 (hS10.t.keep f12 id id) (by omega) hyj) (fun v w13 ⟨hv, f13⟩ => ?_)
              subst hv
              have f13 := f12.no f13
              refine Sd_intro f13.old ?_
              refine Br_df (show ¬ (j : Int) * 64 + y.2.1 > IntKind.i64.wrap (IntKind.i64.wrap (64 * (j : Int)) + 64) by rw [wrap_i64 (n := 64 * (j : Int)) (by omega) (by omega), wrap_i64 (by omega) (by omega)]; omega) ?_
              refine Sd_intro (show 0 ≤ k ∧ k < ((idxs s rs 4).length : Int) by omega) ?_
              refine StC_idx (h2.keep f13 id) rfl hck' (fun w14 h14 f14 _ => ?_)
              refine ⟨((idxs s rs 4).length - (k + 1) : Int).toNat, _, by omega, ?_, k + 1, rfl, (f10.noR f13).trans f14 (fun _ _ e => e) (fun q _ e => by have e : q = gb := e; show w8.heap.size ≤ q; omega), (show 0 ≤ k + 1 by omega), (show k + 1 ≤ ((idxs s rs 4).length : Int) by omega), .inr ⟨gb, _, rfl, h1, h14, fun q hq => ?_⟩, rfl⟩
              · exact ⟨rfl, rfl, rfl, rfl, rfl, rfl, rfl, look_int rfl (wrap_i64 (by omega) (by omega)), trivial⟩
              · rw [List.getElem?_set]
                by_cases e : 0 + k.toNat * 1 = q
                · have hqc : 0 + k.toNat * 1 < cur.length := (List.getElem?_eq_some_iff.1 hck').1
                  rw [if_pos e, if_pos (by omega), if_pos (show (q : Int) < k + 1 by omega)]
                · rw [if_neg e, h3 q hq]
                  by_cases e2 : (q : Int) < k
                  · rw [if_pos e2, if_pos (show (q : Int) < k + 1 by omega)]
                  · rw [if_neg e2, if_neg (show ¬ (q : Int) < k + 1 by omega)]
            · refine Sd_intro (show 0 ≤ k ∧ k < ((idxs s rs 4).length : Int) by omega) ?_
              refine LdS_idx h2 hck' ?_
              refine Sd_intro (show 0 ≤ k ∧ k < ((idxs s rs 4).length : Int) by omega) ?_
              refine LdS_idx h2 hck' ?_
              refine ⟨?_, trivial⟩
              refine CallC_intro (Top_spec (j : Int) w11 (hS10.t.keep f11 id id) (by omega) hyj) (fun v w12 ⟨hv, f12⟩ => ?_)
              subst hv
              have f12 := f11.no f12
              refine Sd_intro f12.old ?_
              refine Br_df (show ¬ (j : Int) * 64 + y.2.1 < IntKind.i64.wrap (64 * (j : Int)) by rw [wrap_i64 (by omega) (by omega)]; omega) ?_
              refine Sd_intro (show 0 ≤ k ∧ k < ((idxs s rs 4).length : Int) by omega) ?_
              refine LdS_idx h2 hck' ?_
              refine Sd_intro (show 0 ≤ k ∧ k < ((idxs s rs 4).length : Int) by omega) ?_
              refine LdS_idx h2 hck' ?_
              refine ⟨?_, trivial⟩
              refine CallC_intro (Top_spec (j : Int) w12 (hS10.t.keep f12 id id) (by omega) hyj) (fun v w13 ⟨hv, f13⟩ => ?_)
              subst hv
              have f13 := f12.no f13
              refine Sd_intro f13.old ?_
              refine Br_df (show ¬ (j : Int) * 64 + y.2.1 > IntKind.i64.wrap (IntKind.i64.wrap (64 * (j : Int)) + 64) by rw [wrap_i64 (n := 64 * (j : Int)) (by omega) (by omega), wrap_i64 (by omega) (by omega)]; omega) ?_
              refine Sd_intro (show 0 ≤ k ∧ k < ((idxs s rs 4).length : Int) by omega) ?_
              refine StC_idx (h2.keep f13 id) rfl hck' (fun w14 h14 f14 _ => ?_)
              refine ⟨((idxs s rs 4).length - (k + 1) : Int).toNat, _, by omega, ?_, k + 1, rfl, (f10.noR f13).trans f14 (fun _ _ e => e) (fun q _ e => by have e : q = gb := e; show w8.heap.size ≤ q; omega), (show 0 ≤ k + 1 by omega), (show k + 1 ≤ ((idxs s rs 4).length : Int) by omega), .inr ⟨gb, _, rfl, h1, h14, fun q hq => ?_⟩, rfl⟩
              · exact ⟨rfl, rfl, rfl, rfl, rfl, rfl, rfl, look_int rfl (wrap_i64 (by omega) (by omega)), trivial⟩
              · rw [List.getElem?_set]
                by_cases e : 0 + k.toNat * 1 = q
                · have hqc : 0 + k.toNat * 1 < cur.length := (List.getElem?_eq_some_iff.1 hck').1
                  rw [if_pos e, if_pos (by omega), if_pos (show (q : Int) < k + 1 by omega)]
                · rw [if_neg e, h3 q hq]
                  by_cases e2 : (q : Int) < k
                  · rw [if_pos e2, if_pos (show (q : Int) < k + 1 by omega)]
                  · rw [if_neg e2, if_neg (show ¬ (q : Int) < k + 1 by omega)]
          · have g4 : ¬ k < ((idxs s rs 4).length : Int) := g4
            have f8_10 : Fr No w8 w10 := f10.weak (fun k hk e => by have e : w8.heap.size ≤ k := e; omega)
            have s10 := f10.size
            clear hcur
            refine ⟨(6 - (s + 1)).toNat, _, by omega, ?_, (((below rs 4 (s.toNat + 1) : Nat) : Int), s + 1), rfl, hS10, k8.no f8_10, by omega, (show 0 ≤ s + 1 by omega), (show s + 1 ≤ 6 by omega), ?_, rfl⟩
            · exact ⟨rfl, rfl, rfl, rfl, rfl, look_int rfl es, trivial⟩
            · show ((below rs 4 (s.toNat + 1) : Nat) : Int) = ((below rs 4 (s + 1).toNat : Nat) : Int)
              rw [toNat_up t0]
      · have g2 : ¬ s ≤ 5 := g2
        have es : s = 6 := by omega
        subst es
        have hall := below_all hS.sane 4 (by omega)
        refine Br_nf (show n = 4 by rw [hn, show (6 : Int).toNat = 6 from rfl, hall]; rfl) ?_
        refine ⟨(len - (i + 1)).toNat, _, by omega, ?_, i + 1, rfl, ⟨rs, hS8⟩, k8, by omega, (show 0 ≤ i + 1 by omega), (show i + 1 ≤ (len : Int) by omega), rfl⟩
        exact ⟨rfl, rfl, rfl, look_int rfl (wrap_i64 (by omega) (by omega)), trivial⟩
    · exact ⟨rfl, f6⟩
  · exact ⟨rfl, f6⟩
end Go.Proofs.Ytilhoimokegpjaa
