/- CsetKeeps' walk. -/
import Derived.Test.YtfokdnmidfmddaaCset6
namespace Go.Vc
open Go.Sort
/-- append of nothing at all to an empty row. -/
theorem ApNil {P : Program} {T : Tab} (hT : T.Ok P) {t ty e : Nat} {q : Rec} (ht : T.d t = .slice e) (hq : look T.recs e = some q) {w : World} {b c : Nat} {K : Value → World → Prop} (k : K (.slice (some ⟨b, 0, none⟩) 0 0) w) :
    RunC P (Builtin.append_ #[t, t] ty #[.slice (some ⟨b, 0, none⟩) 0 0, .slice none 0 c]) w K := by
  obtain ⟨_, i, zv, hi, his, hby, hzv, hc⟩ := hT.recs e q hq
  refine RunC_intro ?_ k
  simp [Builtin.append_, run_underlying (und_slice hT ht), sizeOf, typeInfo, hi, Builtin.lenOf, Builtin.firstCells, storeCells]
end Go.Vc
namespace Go.Proofs.Ytfokdnmidfmddaa
open Go.Vc Go.Sort

theorem CopyI {b ty : Nat} {v : Value} {l : List Int} {w : World} (h0 : Blk w b t_int []) (h : Ints w v l) (hl : l.length ≤ 1000000) {K : Value → World → Prop} (hb : b + 1 = w.heap.size)
    (k : ∀ r w', Own w' b r l → Fr (· = b) w w' → K r w') : RunC Pr (Builtin.append_ #[t_s_int, t_s_int] ty #[.slice (some ⟨b, 0, none⟩) 0 0, v]) w K := by
  obtain ⟨a, c, rfl, h⟩ := h
  cases a with
  | none =>
    have : l = [] := by
      rcases h with h | ⟨x, hx, _⟩
      · exact h
      · cases hx
    subst this
    exact ApNil T_ok (e := t_int) rfl rfl (k _ w (own_empty h0 (Nat.le_refl _)) (Fr.refl _ _))
  | some x =>
    refine ApA T_ok (base := b) (n := 0) (xs := []) (news := ints l) rfl rfl rfl (by decide) (own_empty h0 (Nat.le_refl _)) (by omega) (fun j u hj => ?_) (by rw [ints_len]; exact (Nat.mul_one _).symm) (ints_one l) (by omega) (show (0 + l.length) * 8 ≤ _ by omega) (fun r w2 own2 f2 => ?_)
    · rcases h with h | ⟨x', hx, h⟩
      · subst h; cases hj
      · injection hx with hx
        subst hx
        unfold ints at hj
        rw [List.getElem?_map] at hj
        cases hz : l[j]? with
        | none => rw [hz] at hj; cases hj
        | some z =>
          rw [hz] at hj
          injection hj with hj
          subst hj
          exact h j z hz
    · refine k r w2 ?_ (f2.weak (fun k _ e => by have e : some b = some k := e; injection e with e; exact e.symm))
      have := own2
      rw [Nat.zero_add, List.nil_append] at this
      exact this
theorem CopyC {b ty : Nat} {v : Value} {l : List (Int × Int)} {w : World} (h0 : Blk w b t_cset_Candidate []) (h : Cands w v l) (hl : l.length ≤ 1000000) {K : Value → World → Prop} (hb : b + 1 = w.heap.size)
    (k : ∀ r w', OwnC w' b r l → Fr (· = b) w w' → K r w') : RunC Pr (Builtin.append_ #[t_s_cset_Candidate, t_s_cset_Candidate] ty #[.slice (some ⟨b, 0, none⟩) 0 0, v]) w K := by
  obtain ⟨a, c, rfl, hn, h⟩ := h
  cases a with
  | none =>
    have := hn rfl
    subst this
    exact ApNil T_ok (e := t_cset_Candidate) rfl rfl (k _ w (own_empty h0 (Nat.le_refl _)) (Fr.refl _ _))
  | some x =>
    refine ApA T_ok (base := b) (n := 0) (xs := []) (news := candsL l) rfl rfl rfl (by decide) (own_empty h0 (Nat.le_refl _)) (by omega) (fun j u hj => ?_) (by rw [candsL_len]) (candsL_one l) (by omega) (show (0 + l.length) * 16 ≤ _ by omega) (fun r w2 own2 f2 => ?_)
    · have hj' := (List.getElem?_eq_some_iff.1 hj).1
      rw [candsL_len] at hj'
      have hi : j / 2 < l.length := by omega
      have h1 := h x rfl (j / 2) _ (List.getElem?_eq_getElem hi)
      have h2 := candsL_get (List.getElem?_eq_getElem hi)
      rcases (by omega : j = j / 2 * 2 ∨ j = j / 2 * 2 + 1) with e | e
      · rw [e] at hj ⊢
        rw [h1.1, ← h2.1]
        simpa using hj
      · rw [e] at hj ⊢
        rw [h1.2, ← h2.2]
        have e2 : (j / 2 * 2 + 1) / 2 = j / 2 := by omega
        simpa [e2] using hj
    · refine k r w2 ?_ (f2.weak (fun k _ e => by have e : some b = some k := e; injection e with e; exact e.symm))
      have := own2
      rw [Nat.zero_add, List.nil_append] at this
      exact this
theorem Cands.cell {w : World} {v : Value} {a : Option Addr} {n c : Nat} {l : List (Int × Int)} (h : Cands w v l) (hv : v = .slice a n c) {i : Nat} (hi : i < l.length) : ∃ x, a = some x ∧ ∀ (j : Nat) (u : Value), (candL l[i])[j]? = some u → w.cell? ((x.add (i * 2)).add j) = some u := by
  obtain ⟨a', c', he, hn, hcell⟩ := h
  rw [hv] at he
  injection he with he1 _ _
  subst he1
  cases a with
  | none => exact absurd (hn rfl) (by intro e; rw [e] at hi; cases hi)
  | some ad =>
    have hcc := hcell ad rfl i _ (List.getElem?_eq_getElem hi)
    refine ⟨ad, rfl, fun j u hj => ?_⟩
    have ea : ∀ m : Nat, (ad.add (i * 2)).add m = ad.add (i * 2 + m) := fun m => by
      unfold Addr.add; by_cases h1 : i * 2 = 0 <;> by_cases h2 : m = 0 <;> simp [h1, h2, Nat.add_assoc]
    have hj2 : j = 0 ∨ j = 1 := by
      have := (List.getElem?_eq_some_iff.1 hj).1
      simp [candL] at this; omega
    rcases hj2 with rfl | rfl
    · injection hj with hj; subst hj; rw [ea]; exact hcc.1
    · injection hj with hj; subst hj; rw [ea]; exact hcc.2
theorem LdSN_cells {w : World} {ad : Addr} {K : List Value → Prop} {n : Nat} {vs : List Value} (h : ∀ (j : Nat) (v : Value), vs[j]? = some v → w.cell? (ad.add j) = some v) (hn : vs.length = n) (k : K vs) : LdSN (Old w) ad 0 n K := by
  subst hn
  suffices H : ∀ (vs : List Value) (i : Nat) (K : List Value → Prop), (∀ (j : Nat) (v : Value), vs[j]? = some v → w.cell? (ad.add (i + j)) = some v) → K vs → LdSN (Old w) ad i vs.length K from
    H vs 0 K (fun j v hj => by rw [Nat.zero_add]; exact h j v hj) k
  intro vs
  induction vs with
  | nil => intro i K _ k; exact LdSN_zero' k
  | cons v vs ih =>
    intro i K hc k
    exact LdSN_cons' (LdS_old (hc 0 v rfl) (ih (i + 1) _ (fun j u hj => by rw [show i + 1 + j = i + (j + 1) by omega]; exact hc (j + 1) u hj) k))
end Go.Proofs.Ytfokdnmidfmddaa
