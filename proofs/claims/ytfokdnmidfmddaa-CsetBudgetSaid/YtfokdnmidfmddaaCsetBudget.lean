/- CsetBudget: the walk. -/
import Derived.Test.YtfokdnmidfmddaaCsetLaw2
import Derived.Test.YtfokdnmidfmddaaCset7
namespace Go.Proofs.Ytfokdnmidfmddaa
open Go.Vc Go.Sort

/-- Numbers of 16 bits that came in. -/
def U16 (w : World) (v : Value) (l : List Int) : Prop := ∃ (a : Option Addr) (c : Nat), v = .slice a l.length c ∧ (l = [] ∨ ∃ x, a = some x ∧ ∀ (i : Nat) (z : Int), l[i]? = some z → w.cell? (x.add i) = some (.int .u16 z))
theorem U16.keep {w w' : World} {v : Value} {l : List Int} (h : U16 w v l) (f : Fr No w w') : U16 w' v l := by
  obtain ⟨a, c, rfl, h⟩ := h
  refine ⟨a, c, rfl, ?_⟩
  rcases h with h | ⟨x, rfl, h⟩
  · exact .inl h
  · refine .inr ⟨x, rfl, fun i z hi => ?_⟩
    have h1 := h i z hi
    have hb := World.block_lt_of_cell? w (x.add i) h1
    unfold World.cell? at h1 ⊢
    rw [f.blk _ hb id]; exact h1
theorem U16.cell {w : World} {a : Option Addr} {n c : Nat} {l : List Int} (h : U16 w (.slice a n c) l) {i : Nat} (hi : i < l.length) : ∃ x, a = some x ∧ w.cell? (x.add i) = some (.int .u16 l[i]) := by
  obtain ⟨a', c', he, h⟩ := h
  injection he with e1 e2 e3
  subst e1
  rcases h with h | ⟨x, rfl, h⟩
  · subst h; cases hi
  · exact ⟨x, rfl, h i _ (List.getElem?_eq_getElem hi)⟩
theorem sum_snoc (zs A : List Int) {i : Nat} (hi : i < A.length) : sumLv zs (A.take (i + 1)) = sumLv zs (A.take i) + lvOf zs A[i] := by
  unfold sumLv
  rw [List.take_add_one, List.getElem?_eq_getElem hi]
  show ((A.take i ++ [A[i]]).map (lvOf zs)).sum = _
  rw [List.map_append, List.sum_append]
  show _ + (lvOf zs A[i] + 0) = _
  rw [Int.add_zero]
theorem CsetBudget_spec (v : Value) (zs : List Int) (b0 : Int) (w : World) (hz : U16 w v zs) (hr : ∀ z ∈ zs, 0 ≤ z ∧ z ≤ 65535) :
    CallC Pr f_gleanerlaw18_CsetBudget [v, .int .i64 b0] w (fun v w' => v = .bool true ∧ Fr No w w') := by
  obtain ⟨az, cz, ez, _⟩ := id hz
  subst ez
  refine call_sound T_ok fun_gleanerlaw18_CsetBudget rfl (by kernel_rfl) rfl (Kp ?_)
  refine CallC_intro (awake18_spec w) (fun v w1 ⟨hv, f1⟩ => ?_)
  subst hv
  refine Br_dec (fun g0 => ?_) (fun g0 => ?_)
  · exact ⟨rfl, f1⟩
  have g0 : ¬ (zs.length : Int) > 300 := g0
  have hl : zs.length ≤ 300 := by omega
  refine Sd_intro (by decide) ?_
  have hb : -1000000 < b0.tmod 1000000 ∧ b0.tmod 1000000 < 1000000 := ⟨by have := Int.lt_tmod_of_pos b0 (show (0 : Int) < 1000000 by omega); omega, Int.tmod_lt_of_pos b0 (by omega)⟩
  generalize b0.tmod 1000000 = b at hb ⊢
  refine LoopC_intro (α := Int × Value) (fun q => [(0, .slice az zs.length cz), (1, .int .i64 b), (5, q.2), (6, .int .i64 q.1)])
    (fun m q w2 => Fr No w1 w2 ∧ 0 ≤ q.1 ∧ q.1 ≤ zs.length ∧ OwnC w2 w1.heap.size q.2 ((enumL zs).take q.1.toNat) ∧ m = (zs.length - q.1).toNat)
    zs.length (0, .slice none 0 0) ⟨rfl, rfl, rfl, rfl, trivial⟩ ⟨Fr.refl _ _, Int.le_refl _, by show (0 : Int) ≤ _; omega, World.ownsRow_nil _ _ _ _, by show _ = ((zs.length : Int) - 0).toNat; omega⟩ (fun m q w2 hJ => Kp ?_)
  obtain ⟨f2, i0, i1, ownL, hm⟩ := hJ
  obtain ⟨i, lv⟩ := q
  have i0 : 0 ≤ i := i0
  have i1 : i ≤ zs.length := i1
  have ownL : OwnC w2 w1.heap.size lv ((enumL zs).take i.toNat) := ownL
  have F2 := f1.no f2
  refine Br_dec (fun g1 => ?_) (fun g1 => ?_)
  · have g1 : i < (zs.length : Int) := g1
    have hi : i.toNat < zs.length := by omega
    obtain ⟨x, rfl, hx⟩ := (hz.keep F2).cell hi
    have hzi := hr _ (List.getElem_mem hi)
    have ew : IntKind.i64.wrap zs[i.toNat] = zs[i.toNat] := wrap_i64 (by omega) (by omega)
    refine Sd_intro (show 0 ≤ i ∧ i < (zs.length : Int) by omega) ?_
    refine LdC_intro (v := .int .u16 zs[i.toNat]) (by rw [Nat.mul_one]; exact hx) ?_
    refine NewC_blk (fun p w3 hp h3 f3 s3 => ?_)
    have h3 : Blk w3 p t_cset_Candidate (candL (i, IntKind.i64.wrap zs[i.toNat])) := h3
    rw [ew] at h3
    have hlen : ((enumL zs).take i.toNat).length ≤ 300 := by rw [List.length_take, enumL_len]; omega
    have own3 : w3.ownsRow w1.heap.size t_cset_Candidate 2 lv ((enumL zs).take i.toNat).length (candsL ((enumL zs).take i.toNat)) := own_keep ownL f3 (fun _ _ => id)
    have s2 := f2.size
    refine ApL T_ok (base := w1.heap.size) (xs := candsL ((enumL zs).take i.toNat)) (news := candL (i, zs[i.toNat])) rfl rfl rfl (by decide) own3 (by omega) h3 rfl rfl rfl (by omega) (show (((enumL zs).take i.toNat).length + 1) * 16 ≤ _ by omega) (fun v' w4 own4 f4 loc => ?_)
    have er : (enumL zs).take (i + 1).toNat = (enumL zs).take i.toNat ++ [(i, zs[i.toNat])] := by
      rw [show (i + 1).toNat = i.toNat + 1 by omega, List.take_add_one, enumL_get hi]
      have : ((i.toNat : Nat) : Int) = i := by omega
      rw [this]; rfl
    refine ⟨(zs.length - (i + 1)).toNat, _, by omega, ?_, (i + 1, v'), rfl, (f2.no f3).new f4 (fun _ _ e => e) (fun k e => own_ge own3 k e), by show 0 ≤ i + 1; omega, by show i + 1 ≤ (zs.length : Int); omega, ?_, rfl⟩
    · exact ⟨rfl, rfl, rfl, look_int rfl (wrap_i64 (by omega) (by omega)), trivial⟩
    · show OwnC w4 w1.heap.size v' ((enumL zs).take (i + 1).toNat)
      unfold OwnC
      rw [er, candsL_app, List.length_append]
      exact own4
  have g1 : ¬ i < (zs.length : Int) := g1
  have ownL : OwnC w2 w1.heap.size lv (enumL zs) := by
    have e : (enumL zs).take i.toNat = enumL zs := List.take_of_length_le (by rw [enumL_len]; omega)
    rw [e] at ownL; exact ownL
  refine CallC_intro (Choose_spec _ lv [] (enumL zs) b w2 ⟨none, 0, rfl, .inl rfl⟩ ownL.cands (by decide) (by rw [enumL_len]; exact hl) ⟨by omega, by omega⟩) (fun a w3 ⟨⟨l', p, hs, ownA⟩, f3⟩ => ?_)
  have ownA : Own w3 w2.heap.size a (resultL [] b l') := ownA
  have hB := budget_of (b := b) (fun z hz => (hr z hz).1) p hs
  have rl : (resultL [] b l').length ≤ 300 := by
    have h1 := ddN_len (chosen [] b l') (chosen [] b l').length
    have e : (chosen [] b l').length = ([] ++ takeB b l').length := List.length_mergeSort _
    rw [List.length_append] at e
    have h2 := takeB_len b l'
    have h3 := p.length_eq
    rw [enumL_len] at h3
    unfold resultL
    simp at e
    omega
  generalize resultL [] b l' = A at hB rl ownA
  have ownL : OwnC w3 w1.heap.size lv (enumL zs) := own_keep ownL f3 (fun _ _ => id)
  have F3 := F2.no f3
  obtain ⟨aA, cA, eA⟩ := own_slice ownA
  subst eA
  obtain ⟨aL, cL, eL⟩ := own_slice ownL
  subst eL
  have eln : (enumL zs).length = zs.length := enumL_len zs
  refine MkC T_ok (z := .bool false) rfl rfl rfl rfl (n := ((enumL zs).length : Int)) (by omega) (by omega) (show (1 : Int) * _ ≤ _ by omega) (fun ir w4 hir h4 f4 s4 => ?_)
  have h4 : Blk w4 ir t_bool (List.replicate (enumL zs).length (.bool false)) := by
    have := h4
    rw [Int.toNat_natCast] at this
    exact this
  have F4 := F3.no f4
  have ownA4 := ownA.keep f4 (fun _ _ => id)
  have ownL4 : OwnC w4 w1.heap.size _ (enumL zs) := own_keep ownL f4 (fun _ _ => id)
  have ltA := fun k e => (World.ownsRow.lt ownA k e).2
  have ltL := fun k e => (World.ownsRow.lt ownL k e).2
  have hin0 : Blk w4 ir t_bool (bools (fun j => decide ((j : Int) ∈ A.take (0 : Int).toNat)) (enumL zs).length) := by
    have e : bools (fun j => decide ((j : Int) ∈ A.take (0 : Int).toNat)) (enumL zs).length = List.replicate (enumL zs).length (.bool false) := by
      rw [← bools_false]
      exact bools_congr fun j _ => by show decide ((j : Int) ∈ ([] : List Int)) = false; rw [decide_eq_false]; simp
    rw [e]; exact h4
  have hcellL : ∀ {w' : World}, Fr (· = ir) w4 w' → ∀ x : Int, 0 ≤ x → x < zs.length → ∃ gL, aL = some ⟨gL, 0, none⟩ ∧ ∃ curL, Blk w' gL t_cset_Candidate curL ∧ curL[0 + x.toNat * 2 + 1]? = some (.int .i64 (lvOf zs x)) := by
    intro w' f x x0 x1
    rcases own_cases ownL4 with ⟨_, h0, _⟩ | ⟨gL, capL, curL, hvL, _, hbL, htL, _⟩
    · omega
    · injection hvL with e1 _ _
      have nl : gL ≠ ir := by
        have := ltL gL (by rw [e1]; rfl)
        omega
      refine ⟨gL, e1, curL, hbL.keep f nl, ?_⟩
      have h1 := (candsL_get (enumL_get (zs := zs) (i := x.toNat) (by omega))).2
      rw [← htL, List.getElem?_take, if_pos (by omega)] at h1
      rw [Nat.zero_add, h1]
      unfold lvOf
      rw [List.getElem?_eq_getElem (by omega)]; rfl
  have hcellA : ∀ {w' : World}, Fr (· = ir) w4 w' → ∀ i : Nat, (hi : i < A.length) → ∃ gA, aA = some ⟨gA, 0, none⟩ ∧ gA ≠ ir ∧ ∃ curA, Blk w' gA t_int curA ∧ ∀ j : Nat, (hj : j < A.length) → curA[0 + j * 1]? = some (.int .i64 A[j]) := by
    intro w' f i hi
    rcases own_cases ownA4 with ⟨_, h0, _⟩ | ⟨gA, capA, curA, hvA, _, hbA, htA, _⟩
    · omega
    · injection hvA with e1 _ _
      have nl : gA ≠ ir := by
        have := ltA gA (by rw [e1]; rfl)
        omega
      exact ⟨gA, e1, nl, curA, hbA.keep f nl, fun j hj => by rw [Nat.zero_add, Nat.mul_one]; exact ints_getI htA hj (Nat.le_refl _)⟩
  have hlv : ∀ x : Int, 0 ≤ x → x < zs.length → 0 ≤ lvOf zs x ∧ lvOf zs x ≤ 65535 := by
    intro x x0 x1
    unfold lvOf
    rw [List.getElem?_eq_getElem (by omega)]
    exact hr _ (List.getElem_mem (by omega))
  refine LoopC_intro (α := Int × Int × Int) (fun q => [(1, .int .i64 b), (5, .slice aL (enumL zs).length cL), (7, .slice aA A.length cA), (8, .slice (some ⟨ir, 0, none⟩) (enumL zs).length (enumL zs).length), (9, .int .i64 q.2.1), (10, .int .i64 q.2.2), (11, .int .i64 q.1)])
    (fun m q w5 => Fr (· = ir) w4 w5 ∧ 0 ≤ q.1 ∧ q.1 ≤ A.length ∧ Blk w5 ir t_bool (bools (fun j => decide ((j : Int) ∈ A.take q.1.toNat)) (enumL zs).length) ∧ q.2.1 = sumLv zs (A.take q.1.toNat) ∧ (0 ≤ q.2.1 ∧ q.2.1 ≤ 65535 * q.1) ∧ (-1 ≤ q.2.2 ∧ q.2.2 ≤ 65535) ∧ (∀ B : Int, -1 ≤ B → (∀ x ∈ A.take q.1.toNat, lvOf zs x ≤ B) → q.2.2 ≤ B) ∧ m = (A.length - q.1).toNat)
    A.length (0, 0, -1) ⟨rfl, rfl, rfl, ?_, rfl, rfl, rfl, trivial⟩ ⟨Fr.refl _ _, Int.le_refl _, by show (0 : Int) ≤ _; omega, hin0, rfl, ⟨Int.le_refl _, by show (0 : Int) ≤ 65535 * 0; omega⟩, ⟨Int.le_refl _, by show (-1 : Int) ≤ 65535; omega⟩, fun B h _ => h, by show _ = ((A.length : Int) - 0).toNat; omega⟩ (fun m q w5 hJ => Kp ?_)
  · show some (Value.slice (some ⟨ir, 0, none⟩) ((enumL zs).length : Int).toNat ((enumL zs).length : Int).toNat) = _
    rw [Int.toNat_natCast]
  obtain ⟨f5, i0, i1, hin, hsum, sb, mb, hmost, hm⟩ := hJ
  obtain ⟨i, sm, mo⟩ := q
  have i0 : 0 ≤ i := i0
  have i1 : i ≤ A.length := i1
  have hin : Blk w5 ir t_bool (bools (fun j => decide ((j : Int) ∈ A.take i.toNat)) (enumL zs).length) := hin
  have hsum : sm = sumLv zs (A.take i.toNat) := hsum
  have sb : 0 ≤ sm ∧ sm ≤ 65535 * i := sb
  have mb : -1 ≤ mo ∧ mo ≤ 65535 := mb
  have hmost : ∀ B : Int, -1 ≤ B → (∀ x ∈ A.take i.toNat, lvOf zs x ≤ B) → mo ≤ B := hmost
  refine Br_dec (fun g2 => ?_) (fun g2 => ?_)
  · have g2 : i < (A.length : Int) := g2
    have hi : i.toNat < A.length := by omega
    obtain ⟨x, hx⟩ : ∃ x, x = A[i.toNat] := ⟨_, rfl⟩
    obtain ⟨x0, x1⟩ := hB.lt x (by rw [hx]; exact List.getElem_mem hi)
    obtain ⟨gA, rfl, nA, curA, hbA, hcA⟩ := hcellA f5 i.toNat hi
    have cx : curA[0 + i.toNat * 1]? = some (.int .i64 x) := by rw [hx]; exact hcA i.toNat hi
    have hup := List.pairwise_iff_getElem.1 hB.up
    have hnot : x ∉ A.take i.toNat := by
      intro hm
      obtain ⟨j, hj, ej⟩ := List.getElem_of_mem hm
      rw [List.length_take] at hj
      rw [List.getElem_take] at ej
      have := hup j i.toNat (by omega) hi (by omega)
      omega
    have cin : (bools (fun j => decide ((j : Int) ∈ A.take i.toNat)) (enumL zs).length)[0 + x.toNat * 1]? = some (.bool false) := by
      rw [Nat.zero_add, Nat.mul_one, bools_get (by omega), show ((x.toNat : Nat) : Int) = x by omega, decide_eq_false hnot]
    refine AnyC_mid (α := Unit) (fun _ => [(1, .int .i64 b), (5, .slice aL (enumL zs).length cL), (7, .slice (some ⟨gA, 0, none⟩) A.length cA), (8, .slice (some ⟨ir, 0, none⟩) (enumL zs).length (enumL zs).length), (9, .int .i64 sm), (10, .int .i64 mo), (11, .int .i64 i), (86, .bool false)]) (fun _ w' => w' = w5.drew) ?_ (fun _ w6 hw6 => Kp ?_)
    · refine AnyC_lex T_ok mixed (by kernel_rfl) (by kernel_rfl) (Kp ?_)
      refine Sd_intro (show 0 ≤ i ∧ i < (A.length : Int) by omega) ?_
      refine LdS_idx hbA cx ?_
      refine Br_df (show ¬ x < 0 by omega) ?_
      refine Sd_intro (show 0 ≤ i ∧ i < (A.length : Int) by omega) ?_
      refine LdS_idx hbA cx ?_
      refine Br_df (show ¬ x ≥ ((enumL zs).length : Int) by omega) ?_
      refine Sd_intro (show 0 ≤ i ∧ i < (A.length : Int) by omega) ?_
      refine LdS_idx hbA cx ?_
      refine Sd_intro (show 0 ≤ x ∧ x < ((enumL zs).length : Int) by omega) ?_
      refine LdS_idx hin cin ?_
      refine Br_dec (fun g3 => ?_) (fun g3 => ?_)
      · have g3 : i > 0 := g3
        have ei : IntKind.i64.wrap (i - 1) = i - 1 := wrap_i64 (by omega) (by omega)
        refine Sd_intro (show 0 ≤ i ∧ i < (A.length : Int) by omega) ?_
        refine LdS_idx hbA cx ?_
        refine Sd_intro (show 0 ≤ IntKind.i64.wrap (i - 1) ∧ IntKind.i64.wrap (i - 1) < (A.length : Int) by omega) ?_
        refine LdS_idx hbA (v := .int .i64 A[i.toNat - 1]) (by rw [ei, show (i - 1).toNat = i.toNat - 1 by omega]; exact hcA _ (by omega)) ?_
        refine ⟨(), ⟨rfl, rfl, rfl, rfl, rfl, rfl, rfl, ?_, trivial⟩, rfl⟩
        have := hup (i.toNat - 1) i.toNat (by omega) hi (by omega)
        show some (Value.bool (decide (x ≤ A[i.toNat - 1]))) = _
        rw [decide_eq_false (by omega)]
      · exact ⟨(), ⟨rfl, rfl, rfl, rfl, rfl, rfl, rfl, rfl, trivial⟩, rfl⟩
    · subst hw6
      have hbA := hbA.keep (Fr.drew w5) id
      have hin := hin.keep (Fr.drew w5) id
      refine Sd_intro (show 0 ≤ i ∧ i < (A.length : Int) by omega) ?_
      refine LdC_idx hbA cx ?_
      refine Sd_intro (show 0 ≤ x ∧ x < ((enumL zs).length : Int) by omega) ?_
      refine StC_idx hin rfl cin (fun w7 h7 f7 s7 => ?_)
      rw [Nat.zero_add, Nat.mul_one, bools_set] at h7
      have f47 : Fr (· = ir) w4 w7 := f5.trans (f7.drewL) (fun _ _ e => e) (fun _ _ e => e)
      have hbA := hbA.keep f7 nA
      obtain ⟨gL, eL, curL, hbL, hcL⟩ := hcellL f47 x x0 x1
      subst eL
      have lx := hlv x x0 x1
      have esum : IntKind.i64.wrap (sm + lvOf zs x) = sm + lvOf zs x := wrap_i64 (by omega) (by omega)
      refine Sd_intro (show 0 ≤ i ∧ i < (A.length : Int) by omega) ?_
      refine LdC_idx hbA cx ?_
      refine Sd_intro (show 0 ≤ x ∧ x < ((enumL zs).length : Int) by omega) ?_
      refine LdC_idx2 hbL hcL ?_
      refine Sd_intro (show 0 ≤ i ∧ i < (A.length : Int) by omega) ?_
      refine LdC_idx hbA cx ?_
      refine Sd_intro (show 0 ≤ x ∧ x < ((enumL zs).length : Int) by omega) ?_
      refine LdC_idx2 hbL hcL ?_
      have etk : ∀ y, y ∈ A.take (i + 1).toNat ↔ y ∈ A.take i.toNat ∨ y = x := by
        intro y
        rw [show (i + 1).toNat = i.toNat + 1 by omega, List.take_add_one, List.getElem?_eq_getElem hi, ← hx, List.mem_append]
        simp
      refine ⟨(A.length - (i + 1)).toNat, _, by omega, ?_, (i + 1, sm + lvOf zs x, imax mo (lvOf zs x)), rfl, f47, by show 0 ≤ i + 1; omega, by show i + 1 ≤ (A.length : Int); omega, ?_, ?_, ?_, ?_, ?_, rfl⟩
      · exact ⟨rfl, rfl, rfl, rfl, look_int rfl esum, rfl, look_int rfl (wrap_i64 (by omega) (by omega)), trivial⟩
      · show Blk w7 ir t_bool (bools (fun j => decide ((j : Int) ∈ A.take (i + 1).toNat)) (enumL zs).length)
        have e : bools (upd (fun j => decide ((j : Int) ∈ A.take i.toNat)) x.toNat true) (enumL zs).length = bools (fun j => decide ((j : Int) ∈ A.take (i + 1).toNat)) (enumL zs).length := bools_congr fun j hj => by
          unfold upd
          by_cases e : j = x.toNat
          · rw [if_pos e, decide_eq_true]
            rw [etk]; right; omega
          · rw [if_neg e]
            have : ((j : Int) ∈ A.take i.toNat) ↔ ((j : Int) ∈ A.take (i + 1).toNat) := by
              rw [etk]
              constructor
              · exact .inl
              · rintro (h | h)
                · exact h
                · omega
            rw [decide_eq_decide]; exact this
        rw [← e]; exact h7
      · show sm + lvOf zs x = sumLv zs (A.take (i + 1).toNat)
        rw [show (i + 1).toNat = i.toNat + 1 by omega, sum_snoc zs A hi, ← hx, hsum]
      · show 0 ≤ sm + lvOf zs x ∧ sm + lvOf zs x ≤ 65535 * (i + 1)
        omega
      · show -1 ≤ imax mo (lvOf zs x) ∧ imax mo (lvOf zs x) ≤ 65535
        rw [imax_eq]; omega
      · intro B hB1 hB2
        show imax mo (lvOf zs x) ≤ B
        have h1 := hmost B hB1 (fun y hy => hB2 y ((etk y).2 (.inl hy)))
        have h2 := hB2 x ((etk x).2 (.inr rfl))
        rw [imax_eq]; omega
  have g2 : ¬ i < (A.length : Int) := g2
  have ei : A.take i.toNat = A := List.take_of_length_le (by omega)
  rw [ei] at hin hsum hmost
  have F5 : Fr No w w5 := F4.new f5 (fun _ _ e => e) (fun k e => by have := F3.size; omega)
  refine Br_dec (fun gA => ?_) (fun gA => ?_)
  · have gA : (A.length : Int) > 0 := gA
    refine Br_df (show ¬ sm > b from ?_) ?_
    · rcases hB.sum with h | h
      · rw [h] at gA; exact absurd gA (by decide)
      · omega
    refine LoopC_intro (α := Int) (fun k => [(1, .int .i64 b), (5, .slice aL (enumL zs).length cL), (8, .slice (some ⟨ir, 0, none⟩) (enumL zs).length (enumL zs).length), (9, .int .i64 sm), (10, .int .i64 mo), (12, .int .i64 k)])
      (fun m k w6 => Fr No w5 w6 ∧ 0 ≤ k ∧ k ≤ (enumL zs).length ∧ m = ((enumL zs).length - k).toNat)
      (enumL zs).length 0 ⟨rfl, rfl, rfl, rfl, rfl, rfl, trivial⟩ ⟨Fr.refl _ _, Int.le_refl _, by show (0 : Int) ≤ _; omega, by show _ = (((enumL zs).length : Int) - 0).toNat; omega⟩ (fun m k w6 hJ => Kp ?_)
    obtain ⟨f6, k0, k1, hm6⟩ := hJ
    have k0 : 0 ≤ k := k0
    have k1 : k ≤ (enumL zs).length := k1
    refine Br_dec (fun g6 => ?_) (fun g6 => ?_)
    · have g6 : k < ((enumL zs).length : Int) := g6
      have hin6 := hin.keep f6 id
      refine Sd_intro (show 0 ≤ k ∧ k < ((enumL zs).length : Int) by omega) ?_
      refine LdC_idx hin6 (v := .bool (decide (k ∈ A))) (by rw [Nat.zero_add, Nat.mul_one, bools_get (by omega), show ((k.toNat : Nat) : Int) = k by omega]) ?_
      refine Br_ndec (fun g7 => ?_) (fun g7 => ?_)
      · have g7 : ¬ k ∈ A := g7
        obtain ⟨h1, h2⟩ := hB.rest k.toNat (by omega) (by rw [show ((k.toNat : Nat) : Int) = k by omega]; exact g7)
        rw [show ((k.toNat : Nat) : Int) = k by omega] at h1 h2
        have lk := hlv k k0 (by omega)
        have hmo := hmost (lvOf zs k) (by omega) h1
        obtain ⟨gL, eL, curL, hbL, hcL⟩ := hcellL (f5.trans f6 (fun _ _ e => e) (fun _ _ e => e.elim)) k k0 (by omega)
        subst eL
        have ew : IntKind.i64.wrap (sm + lvOf zs k) = sm + lvOf zs k := wrap_i64 (by omega) (by omega)
        refine Sd_intro (show 0 ≤ k ∧ k < ((enumL zs).length : Int) by omega) ?_
        refine LdC_idx2 hbL hcL ?_
        refine Br_df (show ¬ lvOf zs k < mo by omega) ?_
        refine Sd_intro (show 0 ≤ k ∧ k < ((enumL zs).length : Int) by omega) ?_
        refine LdC_idx2 hbL hcL ?_
        refine Br_df (show ¬ IntKind.i64.wrap (sm + lvOf zs k) ≤ b by omega) ?_
        refine ⟨((enumL zs).length - (k + 1)).toNat, _, by omega, ?_, k + 1, rfl, f6, (show 0 ≤ k + 1 by omega), (show k + 1 ≤ ((enumL zs).length : Int) by omega), rfl⟩
        exact ⟨rfl, rfl, rfl, rfl, rfl, look_int rfl (wrap_i64 (by omega) (by omega)), trivial⟩
      · refine ⟨((enumL zs).length - (k + 1)).toNat, _, by omega, ?_, k + 1, rfl, f6, (show 0 ≤ k + 1 by omega), (show k + 1 ≤ ((enumL zs).length : Int) by omega), rfl⟩
        exact ⟨rfl, rfl, rfl, rfl, rfl, look_int rfl (wrap_i64 (by omega) (by omega)), trivial⟩
    · exact ⟨rfl, F5.no f6⟩
  · refine LoopC_intro (α := Int) (fun k => [(1, .int .i64 b), (5, .slice aL (enumL zs).length cL), (8, .slice (some ⟨ir, 0, none⟩) (enumL zs).length (enumL zs).length), (9, .int .i64 sm), (10, .int .i64 mo), (12, .int .i64 k)])
      (fun m k w6 => Fr No w5 w6 ∧ 0 ≤ k ∧ k ≤ (enumL zs).length ∧ m = ((enumL zs).length - k).toNat)
      (enumL zs).length 0 ⟨rfl, rfl, rfl, rfl, rfl, rfl, trivial⟩ ⟨Fr.refl _ _, Int.le_refl _, by show (0 : Int) ≤ _; omega, by show _ = (((enumL zs).length : Int) - 0).toNat; omega⟩ (fun m k w6 hJ => Kp ?_)
    obtain ⟨f6, k0, k1, hm6⟩ := hJ
    have k0 : 0 ≤ k := k0
    have k1 : k ≤ (enumL zs).length := k1
    refine Br_dec (fun g6 => ?_) (fun g6 => ?_)
    · have g6 : k < ((enumL zs).length : Int) := g6
      have hin6 := hin.keep f6 id
      refine Sd_intro (show 0 ≤ k ∧ k < ((enumL zs).length : Int) by omega) ?_
      refine LdC_idx hin6 (v := .bool (decide (k ∈ A))) (by rw [Nat.zero_add, Nat.mul_one, bools_get (by omega), show ((k.toNat : Nat) : Int) = k by omega]) ?_
      refine Br_ndec (fun g7 => ?_) (fun g7 => ?_)
      · have g7 : ¬ k ∈ A := g7
        obtain ⟨h1, h2⟩ := hB.rest k.toNat (by omega) (by rw [show ((k.toNat : Nat) : Int) = k by omega]; exact g7)
        rw [show ((k.toNat : Nat) : Int) = k by omega] at h1 h2
        have lk := hlv k k0 (by omega)
        have hmo := hmost (lvOf zs k) (by omega) h1
        obtain ⟨gL, eL, curL, hbL, hcL⟩ := hcellL (f5.trans f6 (fun _ _ e => e) (fun _ _ e => e.elim)) k k0 (by omega)
        subst eL
        have ew : IntKind.i64.wrap (sm + lvOf zs k) = sm + lvOf zs k := wrap_i64 (by omega) (by omega)
        refine Sd_intro (show 0 ≤ k ∧ k < ((enumL zs).length : Int) by omega) ?_
        refine LdC_idx2 hbL hcL ?_
        refine Br_df (show ¬ lvOf zs k < mo by omega) ?_
        refine Sd_intro (show 0 ≤ k ∧ k < ((enumL zs).length : Int) by omega) ?_
        refine LdC_idx2 hbL hcL ?_
        refine Br_df (show ¬ IntKind.i64.wrap (sm + lvOf zs k) ≤ b by omega) ?_
        refine ⟨((enumL zs).length - (k + 1)).toNat, _, by omega, ?_, k + 1, rfl, f6, (show 0 ≤ k + 1 by omega), (show k + 1 ≤ ((enumL zs).length : Int) by omega), rfl⟩
        exact ⟨rfl, rfl, rfl, rfl, rfl, look_int rfl (wrap_i64 (by omega) (by omega)), trivial⟩
      · refine ⟨((enumL zs).length - (k + 1)).toNat, _, by omega, ?_, k + 1, rfl, f6, (show 0 ≤ k + 1 by omega), (show k + 1 ≤ ((enumL zs).length : Int) by omega), rfl⟩
        exact ⟨rfl, rfl, rfl, rfl, rfl, look_int rfl (wrap_i64 (by omega) (by omega)), trivial⟩
    · exact ⟨rfl, F5.no f6⟩
theorem u16_of_arg {w : World} {a : Option Addr} {len : Nat} {zs : List Int} (h : RowArg w .u16 a len zs) (hz : ∀ z ∈ zs, 0 ≤ z ∧ z ≤ 65535) (cap : Nat) : ∃ l, U16 w (.slice a len cap) l ∧ ∀ z ∈ l, 0 ≤ z ∧ z ≤ 65535 := by
  rcases h with ⟨rfl, rfl, _⟩ | ⟨x, rfl, hl, hc⟩
  · exact ⟨[], ⟨none, cap, rfl, .inl rfl⟩, fun z h => by cases h⟩
  · refine ⟨zs.take len, ⟨some x, cap, by rw [List.length_take, Nat.min_eq_left hl], .inr ⟨x, rfl, fun i z hi => ?_⟩⟩, fun z h => hz z (List.mem_of_mem_take h)⟩
    rw [List.getElem?_take] at hi
    split at hi
    · exact hc i z hi
    · cases hi
end Go.Proofs.Ytfokdnmidfmddaa
