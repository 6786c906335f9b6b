/- Layer 11 (remset): Cards, Clear, Scrub, in the sets' own words. -/
import Derived.Test.YtdhbpklmkibmbaaGreatRem15
namespace Go.Proofs.YtdhbpklmkibmbaaGreat
open Go.Vc

theorem elems_sorted (S : Nat → Bool) : ∀ m, (elems S m).Pairwise (· < ·)
  | 0 => List.Pairwise.nil
  | m + 1 => by
    show (elems S m ++ _).Pairwise _
    refine List.pairwise_append.2 ⟨elems_sorted S m, ?_, fun a ha b hb => ?_⟩
    · split
      · exact List.pairwise_singleton _ _
      · exact List.Pairwise.nil
    · have := (elems_mem ha).2.1
      split at hb
      · have := List.mem_singleton.1 hb; omega
      · cases hb
theorem elems_iff {S : Nat → Bool} : ∀ {m : Nat} {c : Int}, c ∈ elems S m ↔ 0 ≤ c ∧ c < m ∧ S c.toNat = true := by
  intro m c
  refine ⟨elems_mem, ?_⟩
  induction m with
  | zero => intro h; omega
  | succ m ih =>
    rintro ⟨h0, h1, h2⟩
    show c ∈ elems S m ++ _
    refine List.mem_append.2 ?_
    by_cases e : c = m
    · right
      subst e
      rw [Int.toNat_natCast] at h2
      rw [if_pos h2]; exact List.mem_singleton.2 rfl
    · exact .inl (ih ⟨h0, by omega, h2⟩)
theorem nodup_flat {α κ : Type} {key : α → κ} {F : α → List Int} {f : Int → κ} : ∀ {l : List α}, (l.map key).Nodup → (∀ x ∈ l, (F x).Nodup) → (∀ x ∈ l, ∀ c ∈ F x, key x = f c) → (l.flatMap F).Nodup := by
  intro l
  induction l with
  | nil => intro _ _ _; exact List.nodup_nil
  | cons x l ih =>
    intro nd h1 h2
    rw [List.map_cons, List.nodup_cons] at nd
    rw [List.flatMap_cons]
    refine List.nodup_append.2 ⟨h1 x List.mem_cons_self, ih nd.2 (fun y hy => h1 y (List.mem_cons_of_mem _ hy)) (fun y hy => h2 y (List.mem_cons_of_mem _ hy)), fun a ha b hb e => nd.1 ?_⟩
    obtain ⟨y, hy, hby⟩ := List.mem_flatMap.1 hb
    subst e
    rw [h2 x List.mem_cons_self a ha, ← h2 y (List.mem_cons_of_mem _ hy) a hby]
    exact List.mem_map.2 ⟨y, hy, rfl⟩
def cardsA (n per : Int) (A : Abs) (hm : Int) : List Int := (rng (n * per)).filter (hasA n per A hm)
theorem div_of {s per j : Int} (h0 : 0 ≤ j) (h1 : j < per) : (s * per + j) / per = s ∧ (s * per + j) % per = j := by
  have : 0 < per := by omega
  rw [Int.add_comm, Int.add_mul_ediv_right _ _ (by omega), Int.add_mul_emod_self_right, Int.ediv_eq_zero_of_lt h0 h1, Int.emod_eq_of_lt h0 h1]
  omega
theorem cards_mem {n per : Int} {A : Abs} {sp : List SpE} {fi : List FiE} {co : List (Int × Int)} (C : RCfg n per) (g : GoodG n per A sp fi co) {hm : Int} (hr : 0 ≤ hm ∧ hm < n) (c : Int) :
    c ∈ cardsL hm per sp fi co ↔ hasA n per A hm c = true := by
  have p1 := C.p1
  have rngc : ∀ s j : Int, 0 ≤ s → s < n → 0 ≤ j → j < per → 0 ≤ s * per + j ∧ s * per + j < n * per := fun s j h1 h2 h3 h4 => by
    have a1 : 0 ≤ s * per := Int.mul_nonneg h1 (by omega)
    have a2 : (s + 1) * per ≤ n * per := Int.mul_le_mul_of_nonneg_right (by omega) (by omega)
    rw [Int.add_mul, Int.one_mul] at a2
    omega
  unfold cardsL
  rw [List.mem_append, List.mem_append, List.mem_flatMap, List.mem_flatMap, List.mem_flatMap]
  constructor
  · rintro ((⟨e, he, hc⟩ | ⟨e, he, hc⟩) | ⟨k, hk, hc⟩)
    · unfold spF at hc
      split at hc
      · rename_i ek
        obtain ⟨ok, eA, _, _, _, hl⟩ := g.spk e he
        obtain ⟨h0, h1, h2⟩ := hl c hc
        unfold hasA
        rw [if_pos ⟨hr.1, hr.2, h0, h1⟩, h2, show (hm, e.k.2) = e.k by rw [← ek], eA]
        exact decide_eq_true hc
      · cases hc
    · unfold fiF at hc
      split at hc
      · rename_i ek
        obtain ⟨j, hj, rfl⟩ := List.mem_map.1 hc
        obtain ⟨ok, eA, _⟩ := g.fik e he
        obtain ⟨j0, j1, j2⟩ := elems_mem hj
        have jp : j < per := by omega
        unfold okK at ok
        obtain ⟨r0, r1⟩ := rngc e.k.2 j ok.2.2.1 ok.2.2.2.1 j0 jp
        obtain ⟨d1, d2⟩ := div_of (s := e.k.2) j0 jp
        unfold hasA
        rw [if_pos ⟨hr.1, hr.2, r0, r1⟩, d1, show (hm, e.k.2) = e.k by rw [← ek], eA]
        show e.S ((e.k.2 * per + j) % per).toNat = true
        rw [d2]; exact j2
      · cases hc
    · unfold coF at hc
      split at hc
      · rename_i ek
        obtain ⟨j, hj, rfl⟩ := List.mem_map.1 hc
        have hj := List.mem_range.1 hj
        obtain ⟨ok, eA⟩ := g.cok k hk
        have jp : (j : Int) < per := by omega
        unfold okK at ok
        obtain ⟨r0, r1⟩ := rngc k.2 j ok.2.2.1 ok.2.2.2.1 (by omega) jp
        obtain ⟨d1, d2⟩ := div_of (s := k.2) (j := (j : Int)) (by omega) jp
        unfold hasA
        rw [if_pos ⟨hr.1, hr.2, r0, r1⟩, d1, show (hm, k.2) = k by rw [← ek], eA]
        rfl
      · cases hc
  · intro h
    unfold hasA at h
    split at h
    · rename_i hc
      have ed : c = c / per * per + c % per := by have := Int.mul_ediv_add_emod c per; rw [Int.mul_comm] at this; omega
      have m0 := Int.emod_nonneg c (show per ≠ 0 by omega)
      have m1 := Int.emod_lt_of_pos c (show 0 < per by omega)
      rcases g.src (hm, c / per) with ⟨hk, eA⟩ | ⟨e, he, hek, hnc, eA⟩ | ⟨⟨e, he, hek, eA⟩, hnc, hnf⟩ | ⟨hns, hnc, hnf, eA⟩
      · refine .inr ⟨_, hk, ?_⟩
        unfold coF
        rw [if_pos rfl]
        refine List.mem_map.2 ⟨(c % per).toNat, List.mem_range.2 (by omega), ?_⟩
        show c / per * per + ((c % per).toNat : Int) = c
        omega
      · refine .inl (.inr ⟨e, he, ?_⟩)
        unfold fiF
        rw [if_pos (by rw [hek])]
        rw [eA] at h
        refine List.mem_map.2 ⟨c % per, elems_iff.2 ⟨m0, by omega, h⟩, ?_⟩
        rw [hek]; exact ed.symm
      · refine .inl (.inl ⟨e, he, ?_⟩)
        unfold spF
        rw [if_pos (by rw [hek])]
        rw [eA] at h
        exact of_decide_eq_true h
      · rw [eA] at h; cases h
    · cases h
theorem cards_nodup {n per : Int} {A : Abs} {sp : List SpE} {fi : List FiE} {co : List (Int × Int)} (C : RCfg n per) (g : GoodG n per A sp fi co) (nds : (sp.map (·.k)).Nodup) (ndf : (fi.map (·.k)).Nodup) (ndc : co.Nodup) (hm : Int) :
    (cardsL hm per sp fi co).Nodup := by
  have p1 := C.p1
  have inj : ∀ s : Int, Function.Injective fun c : Int => s * per + c := fun s a b e => by have e : s * per + a = s * per + b := e; omega
  have k1 : ∀ e ∈ sp, ∀ c ∈ spF hm e, e.k = (hm, c / per) := fun e he c hc => by
    unfold spF at hc
    split at hc
    · rename_i ek
      rw [((g.spk e he).2.2.2.2.2 c hc).2.2, ← ek]
    · cases hc
  have k2 : ∀ e ∈ fi, ∀ c ∈ fiF hm per e, e.k = (hm, c / per) := fun e he c hc => by
    unfold fiF at hc
    split at hc
    · rename_i ek
      obtain ⟨j, hj, rfl⟩ := List.mem_map.1 hc
      obtain ⟨j0, j1, _⟩ := elems_mem hj
      rw [(div_of (s := e.k.2) j0 (show j < per by omega)).1, ← ek]
    · cases hc
  have k3 : ∀ k ∈ co, ∀ c ∈ coF hm per k, k = (hm, c / per) := fun k hk c hc => by
    unfold coF at hc
    split at hc
    · rename_i ek
      obtain ⟨j, hj, rfl⟩ := List.mem_map.1 hc
      have hj := List.mem_range.1 hj
      rw [(div_of (s := k.2) (j := (j : Int)) (by omega) (show (j : Int) < per by omega)).1, ← ek]
    · cases hc
  unfold cardsL
  refine List.nodup_append.2 ⟨List.nodup_append.2 ⟨nodup_flat (f := fun c => (hm, c / per)) nds (fun e he => ?_) k1, nodup_flat (f := fun c => (hm, c / per)) ndf (fun e he => ?_) k2, fun a ha b hb e => ?_⟩, nodup_flat (key := id) (f := fun c => (hm, c / per)) (by simpa using ndc) (fun k hk => ?_) k3, fun a ha b hb e => ?_⟩
  · unfold spF
    split
    · exact (g.spk e he).2.2.2.2.1
    · exact List.nodup_nil
  · unfold fiF
    split
    · exact List.pairwise_map.2 ((elems_sorted e.S per.toNat).imp fun h e' => by omega)
    · exact List.nodup_nil
  · obtain ⟨x, hx, hax⟩ := List.mem_flatMap.1 ha
    obtain ⟨y, hy, hby⟩ := List.mem_flatMap.1 hb
    subst e
    exact g.fs y hy (List.mem_map.2 ⟨x, hx, by rw [k1 x hx a hax, k2 y hy a hby]⟩)
  · unfold coF
    split
    · exact List.pairwise_map.2 (List.pairwise_lt_range.imp fun h e' => by omega)
    · exact List.nodup_nil
  · obtain ⟨y, hy, hby⟩ := List.mem_flatMap.1 hb
    subst e
    rcases List.mem_append.1 ha with ha | ha
    · obtain ⟨x, hx, hax⟩ := List.mem_flatMap.1 ha
      exact g.cs y hy (List.mem_map.2 ⟨x, hx, by rw [k1 x hx a hax, k3 y hy a hby]⟩)
    · obtain ⟨x, hx, hax⟩ := List.mem_flatMap.1 ha
      exact g.fc x hx (by rw [k2 x hx a hax, ← k3 y hy a hby]; exact hy)
theorem cards_eq {n per : Int} {A : Abs} {sp : List SpE} {fi : List FiE} {co : List (Int × Int)} (C : RCfg n per) (g : GoodG n per A sp fi co) (nds : (sp.map (·.k)).Nodup) (ndf : (fi.map (·.k)).Nodup) (ndc : co.Nodup) {hm : Int} (hr : 0 ≤ hm ∧ hm < n) :
    (cardsL hm per sp fi co).Perm (cardsA n per A hm) := by
  refine (List.perm_ext_iff_of_nodup (cards_nodup C g nds ndf ndc hm) ?_).2 fun c => ?_
  · exact ((rng_sorted (n * per)).imp fun h e => by omega).filter _
  · rw [cards_mem C g hr]
    unfold cardsA
    rw [List.mem_filter, rng_mem]
    refine ⟨fun h => ⟨?_, h⟩, fun h => h.2⟩
    unfold hasA at h
    split at h
    · rename_i hc; exact hc.2.2
    · cases h
def dropA (A : Abs) (q : Int × Int → Bool) : Abs := fun k => if q k then .sp [] else A k
theorem good_drop {n per : Int} {A : Abs} {sp : List SpE} {fi : List FiE} {co : List (Int × Int)} (g : GoodG n per A sp fi co) (q : Int × Int → Bool) : GoodG n per (dropA A q) (sp.filter fun x => !q x.k) (fi.filter fun x => !q x.k) (co.filter fun k => !q k) where
  spk e he := by
    obtain ⟨he, hq⟩ := List.mem_filter.1 he
    obtain ⟨a, b, c⟩ := g.spk e he
    exact ⟨a, by unfold dropA; rw [if_neg (by simpa using hq)]; exact b, c⟩
  fik e he := by
    obtain ⟨he, hq⟩ := List.mem_filter.1 he
    obtain ⟨a, b, c⟩ := g.fik e he
    exact ⟨a, by unfold dropA; rw [if_neg (by simpa using hq)]; exact b, c⟩
  cok k hk := by
    obtain ⟨hk, hq⟩ := List.mem_filter.1 hk
    obtain ⟨a, b⟩ := g.cok k hk
    exact ⟨a, by unfold dropA; rw [if_neg (by simpa using hq)]; exact b⟩
  non k a b c := by
    unfold dropA
    by_cases hq : q k = true
    · rw [if_pos hq]
    · rw [if_neg hq]
      have hq : q k = false := by simpa using hq
      refine g.non k (fun h => a ?_) (fun h => b ?_) (fun h => c (List.mem_filter.2 ⟨h, by simp [hq]⟩))
      · obtain ⟨x, hx, rfl⟩ := List.mem_map.1 h
        exact List.mem_map.2 ⟨x, List.mem_filter.2 ⟨hx, by simp [hq]⟩, rfl⟩
      · obtain ⟨x, hx, rfl⟩ := List.mem_map.1 h
        exact List.mem_map.2 ⟨x, List.mem_filter.2 ⟨hx, by simp [hq]⟩, rfl⟩
  five hm := Nat.le_trans (sub_flat _ List.filter_sublist).length_le (g.five hm)
def inR (n r : Int) : Bool := decide (0 ≤ r ∧ r < n)
def clearA (n : Int) (A : Abs) (r : Int) : Abs := if inR n r then dropA A fun p => decide (p.1 = r) else A
def scrubA (n : Int) (A : Abs) (r : Int) : Abs := if inR n r then dropA A fun p => decide (p.2 = r) else A
theorem Clear_RS {w : World} {b : Nat} {B : Nat → Prop} {n per : Int} {A : Abs} (r : Int) (h : RS w b B n per A) :
    CallC Pr f_remset_Sets_Clear [.pointer (some ⟨b, 0, none⟩), .int .i64 r] w (fun v w' => v = .int .i64 (if inR n r then 0 else 2) ∧ RS w' b B n per (clearA n A r) ∧ Fr B w w') := by
  obtain ⟨m1, m2, m3, sp, fi, co, hG, g, hB, hBs⟩ := id h
  by_cases hr : 0 ≤ r ∧ r < n
  · unfold clearA inR
    rw [decide_eq_true hr]
    refine CallC_intro (Clear_spec r w hG hr) (fun v w' ⟨hv, hS, f⟩ => ⟨hv, ⟨m1, m2, m3, _, _, _, hS, good_drop g fun p => decide (p.1 = r), fun x hx => hB x ?_, fun e he => hBs e (List.mem_filter.1 he).1⟩, f.weak fun x _ e => ?_⟩)
    · exact restB_sub List.filter_sublist x hx
    · rcases e with e | e | e <;> (rw [e]; exact hB _ (by simp [restB]))
  · unfold clearA inR
    rw [decide_eq_false hr]
    exact CallC_intro (Clear_out r w hG.tab hr) (fun v w' ⟨hv, f⟩ => ⟨hv, h.keep f (fun _ _ => id), f.weak fun _ _ e => e.elim⟩)
theorem Scrub_RS {w : World} {b : Nat} {B : Nat → Prop} {n per : Int} {A : Abs} (r : Int) (h : RS w b B n per A) :
    CallC Pr f_remset_Sets_Scrub [.pointer (some ⟨b, 0, none⟩), .int .i64 r] w (fun v w' => v = .int .i64 (if inR n r then 0 else 2) ∧ RS w' b B n per (scrubA n A r) ∧ Fr B w w') := by
  obtain ⟨m1, m2, m3, sp, fi, co, hG, g, hB, hBs⟩ := id h
  by_cases hr : 0 ≤ r ∧ r < n
  · unfold scrubA inR
    rw [decide_eq_true hr]
    refine CallC_intro (Scrub_spec r w hG hr) (fun v w' ⟨hv, hS, f⟩ => ⟨hv, ⟨m1, m2, m3, _, _, _, hS, good_drop g fun p => decide (p.2 = r), fun x hx => hB x ?_, fun e he => hBs e (List.mem_filter.1 he).1⟩, f.weak fun x _ e => ?_⟩)
    · exact restB_sub List.filter_sublist x hx
    · rcases e with e | e | e <;> (rw [e]; exact hB _ (by simp [restB]))
  · unfold scrubA inR
    rw [decide_eq_false hr]
    exact CallC_intro (Scrub_out r w hG.tab hr) (fun v w' ⟨hv, f⟩ => ⟨hv, h.keep f (fun _ _ => id), f.weak fun _ _ e => e.elim⟩)
theorem RS.trim {w : World} {b : Nat} {B : Nat → Prop} {n per : Int} {A : Abs} (h : RS w b B n per A) : RS w b (fun x => B x ∧ x < w.heap.size) n per A := by
  obtain ⟨m1, m2, m3, sp, fi, co, hG, g, hB, hBs⟩ := h
  exact ⟨m1, m2, m3, sp, fi, co, hG, g, fun x hx => ⟨hB x hx, hG.rest_lt x hx⟩, fun e he => ⟨hBs e he, spV_lt (hG.rows e he)⟩⟩
theorem RS.sub {w : World} {b : Nat} {B B' : Nat → Prop} {n per : Int} {A : Abs} (h : RS w b B n per A) (hs : ∀ x, B x → B' x) : RS w b B' n per A := by
  obtain ⟨m1, m2, m3, sp, fi, co, hG, g, hB, hBs⟩ := h
  exact ⟨m1, m2, m3, sp, fi, co, hG, g, fun x hx => hs x (hB x hx), fun e he => hs _ (hBs e he)⟩
/-- New sets. -/
theorem new_RS {w : World} {b m1 m2 m3 : Nat} {n per : Int} (h : SetsG w b m1 m2 m3 n per [] [] []) : RS w b (fun x => x ∈ [b, m1, m2, m3]) n per (fun _ => .sp []) :=
  ⟨m1, m2, m3, [], [], [], h, ⟨fun e he => (by cases he), fun e he => (by cases he), fun e he => (by cases he), fun _ _ _ _ => rfl, fun _ => Nat.zero_le _⟩, fun x hx => hx, fun e he => (by cases he)⟩
end Go.Proofs.YtdhbpklmkibmbaaGreat
