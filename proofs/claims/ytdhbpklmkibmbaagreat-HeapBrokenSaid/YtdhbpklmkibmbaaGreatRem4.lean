/- Layer 11 (remset): a source becomes fine, where few are. -/
import Derived.Test.YtdhbpklmkibmbaaGreatRem3
namespace Go.Proofs.YtdhbpklmkibmbaaGreat
open Go.Vc

def setOf (per : Int) (l : List Int) : Nat → Bool := fun j => decide (∃ c ∈ l, (c % per).toNat = j)
def delSp (sp : List SpE) (k : Int × Int) : List SpE := sp.filter fun e => !decide (e.k = k)
theorem del_spM (sp : List SpE) (k : Int × Int) : spM (delSp sp k) = delM (spM sp) k := by
  unfold spM delSp delM
  rw [List.filter_map]; rfl
theorem put_fiM {fi : List FiE} {e : FiE} (h : idxM (fiM fi) e.k = none) : fiM (fi ++ [e]) = putM (fiM fi) e.k (.pointer (some ⟨e.f, 0, none⟩)) := by
  unfold putM; rw [h]; simp [fiM]
theorem bits_ne {w : World} {f r : Nat} {n : Int} {S : Nat → Bool} (h : IsBits w f r n S) : f ≠ r := by
  obtain ⟨ws, hw, _⟩ := h
  intro e
  have h1 := hw.tab
  have h2 := hw.row
  rw [e] at h1
  unfold Blk at h1 h2
  rw [h1] at h2
  injection h2 with h2
  injection h2 with _ h2 _
  cases h2
theorem bits_lt {w : World} {f r : Nat} {n : Int} {S : Nat → Bool} (h : IsBits w f r n S) : f < w.heap.size ∧ r < w.heap.size := by
  obtain ⟨ws, hw, _⟩ := h
  exact ⟨hw.tab.lt, hw.row.lt⟩
/-- A sparse source has become a fine one. -/
theorem SetsG.refine {w w' : World} {b m1 m2 m3 : Nat} {n per : Int} {sp : List SpE} {fi : List FiE} {co : List (Int × Int)} (h : SetsG w b m1 m2 m3 n per sp fi co) {e : FiE} {F : Nat → Prop} (f : Fr F w w')
    (hF : ∀ x, F x → x = m1 ∨ x = m2 ∨ (∃ o, spGet sp e.k = some o ∧ x = o.g)) (hM1 : MapG pairV w' m1 (delM (spM sp) e.k)) (hi : idxM (fiM fi) e.k = none) (hM2 : MapG pairV w' m2 (putM (fiM fi) e.k (.pointer (some ⟨e.f, 0, none⟩))))
    (hS : IsBits w' e.f e.r per e.S) (hf : w.heap.size ≤ e.f) (hr : w.heap.size ≤ e.r) : SetsG w' b m1 m2 m3 n per (delSp sp e.k) (fi ++ [e]) co := by
  have hrs := h.rest_lt
  have hne1 : ∀ x ∈ restB b m1 m2 m3 fi, F x → x = m1 ∨ x = m2 := by
    intro x hx hf
    rcases hF x hf with e1 | e1 | ⟨o, ho, e1⟩
    · exact .inl e1
    · exact .inr e1
    · exact absurd (by rw [← e1]; exact hx) (h.dj o (spGet_some ho).1)
  have hnd := h.rs
  unfold restB at hnd
  simp only [List.nodup_cons, List.mem_cons, not_or] at hnd
  obtain ⟨⟨n1, n2, n3, n4⟩, ⟨n5, n6, n7⟩, ⟨n8, n9⟩, n10, n11⟩ := hnd
  have hfi : ∀ y ∈ fi, (y.f ≠ m1 ∧ y.f ≠ m2) ∧ (y.r ≠ m1 ∧ y.r ≠ m2) ∧ y.f ∈ restB b m1 m2 m3 fi ∧ y.r ∈ restB b m1 m2 m3 fi := by
    intro y hy
    refine ⟨⟨fun e => n7 (List.mem_flatMap.2 ⟨y, hy, by simp [e]⟩), fun e => n9 (List.mem_flatMap.2 ⟨y, hy, by simp [e]⟩)⟩, ⟨fun e => n7 (List.mem_flatMap.2 ⟨y, hy, by simp [e]⟩), fun e => n9 (List.mem_flatMap.2 ⟨y, hy, by simp [e]⟩)⟩, ?_, ?_⟩
    · unfold restB; simp only [List.mem_cons, List.mem_flatMap]; exact .inr (.inr (.inr (.inr ⟨y, hy, by simp⟩)))
    · unfold restB; simp only [List.mem_cons, List.mem_flatMap]; exact .inr (.inr (.inr (.inr ⟨y, hy, by simp⟩)))
  have mr : ∀ x ∈ [b, m1, m2, m3], x ∈ restB b m1 m2 m3 fi := fun x hx => by
    unfold restB
    simp at hx ⊢
    rcases hx with h | h | h | h <;> simp [h]
  have rest' : restB b m1 m2 m3 (fi ++ [e]) = restB b m1 m2 m3 fi ++ [e.f, e.r] := by simp [restB]
  have nb : ∀ x ∈ restB b m1 m2 m3 fi, x ≠ m1 → x ≠ m2 → ¬ F x := fun x hx a1 a2 hf => by
    rcases hne1 x hx hf with e1 | e1
    · exact a1 e1
    · exact a2 e1
  refine ⟨h.tab.keep f (nb b (mr _ (by simp)) n1 n2), by rw [del_spM]; exact hM1, by rw [put_fiM hi]; exact hM2, h.map3.keep f (nb m3 (mr _ (by simp)) (fun e => n6 e.symm) (fun e => n8 e.symm)), fun x hx => ?_, fun y hy => ?_, ?_, ?_, fun x hx => ?_⟩
  · obtain ⟨hx1, hx2⟩ := List.mem_filter.1 hx
    have hx2 : x.k ≠ e.k := by simpa using hx2
    refine own_keepV (h.rows x hx1) f (fun k hk hf => ?_)
    injection hk with hk
    have hk : x.g = k := hk
    rcases hF k hf with e1 | e1 | ⟨o, ho, e1⟩
    · exact h.dj x hx1 (by rw [hk, e1]; exact mr _ (by simp))
    · exact h.dj x hx1 (by rw [hk, e1]; exact mr _ (by simp))
    · obtain ⟨ho1, ho2, _⟩ := spGet_some ho
      obtain ⟨i, hi', ei⟩ := List.getElem_of_mem hx1
      obtain ⟨j, hj', ej⟩ := List.getElem_of_mem ho1
      have hp := List.pairwise_iff_getElem.1 h.gs
      have hij : i ≠ j := fun c => hx2 (by subst c; rw [← ei, ej, ho2])
      rcases Nat.lt_or_gt_of_ne hij with c | c
      · exact hp i j (by simpa using hi') (by simpa using hj') c (by simp [ei, ej, hk, e1])
      · exact hp j i (by simpa using hj') (by simpa using hi') c (by simp [ei, ej, hk, e1])
  · rcases List.mem_append.1 hy with hy | hy
    · obtain ⟨a1, a2, a3, a4⟩ := hfi y hy
      exact (h.sets y hy).keep f (nb _ a3 a1.1 a1.2) (nb _ a4 a2.1 a2.2)
    · have : y = e := by simpa using hy
      rw [this]; exact hS
  · exact h.gs.sublist (List.Sublist.map _ List.filter_sublist)
  · rw [rest']
    refine List.nodup_append.2 ⟨h.rs, by simp [bits_ne hS], fun a ha b' hb' e' => ?_⟩
    have := hrs a ha
    simp at hb'
    omega
  · have hx1 := (List.mem_filter.1 hx).1
    rw [rest', List.mem_append]
    rintro (h1 | h1)
    · exact h.dj x hx1 h1
    · have := spV_lt (h.rows x hx1)
      simp at h1
      omega
theorem setOf_snoc (per : Int) (l : List Int) {i : Nat} (hi : i < l.length) : setOf per (l.take (i + 1)) = bput (setOf per (l.take i)) (l[i] % per).toNat := by
  funext j
  unfold setOf bput
  rw [List.take_add_one, List.getElem?_eq_getElem hi]
  by_cases e : j = (l[i] % per).toNat
  · rw [decide_eq_true e, Bool.true_or, decide_eq_true_iff]
    exact ⟨l[i], List.mem_append_right _ (List.mem_singleton.2 rfl), e.symm⟩
  · rw [decide_eq_false e, Bool.false_or, decide_eq_decide]
    constructor
    · rintro ⟨c, hc, ec⟩
      rcases List.mem_append.1 hc with h | h
      · exact ⟨c, h, ec⟩
      · have : c = l[i] := by simpa using h
        exact absurd (by rw [← ec, this]) e
    · rintro ⟨c, hc, ec⟩
      exact ⟨c, List.mem_append_left _ hc, ec⟩
def pairsL (l : List (Int × Int)) : List Value := l.flatMap pairL
theorem pairsL_app (l : List (Int × Int)) (x : Int × Int) : pairsL (l ++ [x]) = pairsL l ++ pairL x := by simp [pairsL]
/-- How many of a home's sources are in a list. -/
def ofHome (hm : Int) (l : List ((Int × Int) × Value)) : List ((Int × Int) × Value) := l.filter fun x => decide (x.1.1 = hm)
theorem ofHome_del {hm : Int} {l : List ((Int × Int) × Value)} {x : (Int × Int) × Value} (nd : (l.map (·.1)).Nodup) (hx : x ∈ l) : (ofHome hm l).length = (ofHome hm (delM l x.1)).length + (if x.1.1 = hm then 1 else 0) := by
  induction l with
  | nil => cases hx
  | cons y l ih =>
    rw [List.map_cons, List.nodup_cons] at nd
    by_cases e : y.1 = x.1
    · have hd : delM (y :: l) x.1 = l := by
        unfold delM
        rw [List.filter_cons, if_neg (by simp [e]), List.filter_eq_self]
        intro z hz
        simp only [Bool.not_eq_true', decide_eq_false_iff_not]
        intro e2
        exact nd.1 (List.mem_map.2 ⟨z, hz, e2.trans e.symm⟩)
      rw [hd]
      unfold ofHome
      rw [List.filter_cons, e]
      by_cases c : x.1.1 = hm
      · rw [if_pos (by simp [c]), if_pos c]; simp
      · rw [if_neg (by simp [c]), if_neg c]; simp
    · have hx' : x ∈ l := by
        rcases List.mem_cons.1 hx with h | h
        · exact absurd (by rw [h]) e
        · exact h
      have hd : delM (y :: l) x.1 = y :: delM l x.1 := by
        unfold delM
        rw [List.filter_cons, if_pos (by simp [e])]
      have h1 := ih nd.2 hx'
      rw [hd]
      unfold ofHome at h1 ⊢
      rw [List.filter_cons, List.filter_cons]
      by_cases c : y.1.1 = hm
      · rw [if_pos (by simp [c]), if_pos (by simp [c]), List.length_cons, List.length_cons, h1]; omega
      · rw [if_neg (by simp [c]), if_neg (by simp [c])]; exact h1
theorem refine_few {b m1 m2 m3 : Nat} {n per : Int} {sp : List SpE} {fi : List FiE} {co : List (Int × Int)} (k : Int × Int) (lv : Value) (l : List Int) (w0 w : World) (h : SetsG w0 b m1 m2 m3 n per sp fi co) (f0 : Fr (fun x => ∃ o, spGet sp k = some o ∧ x = o.g) w0 w) (hM1 : MapG pairV w m1 (spM sp))
    (hown : Own w 0 lv l) (hlm : ∀ x, lv.ownBlock = some x → x ≠ m1) (hl0 : ∀ c ∈ l, 0 ≤ c) (hll : l.length ≤ 1000) (hp : 1 ≤ per) (hp2 : per ≤ 4194304) (hi : idxM (fiM fi) k = none) (hfew : (ofHome k.1 (fiM fi)).length ≤ 3) :
    CallC Pr f_remset_Sets_refine [.pointer (some ⟨b, 0, none⟩), pairV k, lv] w (fun v w' => v = .tuple #[] ∧ (∃ f r, SetsG w' b m1 m2 m3 n per (delSp sp k) (fi ++ [⟨k, f, r, setOf per l⟩]) co ∧ w0.heap.size ≤ f ∧ w0.heap.size ≤ r) ∧
      Fr (fun x => x = m1 ∨ x = m2 ∨ ∃ o, spGet sp k = some o ∧ x = o.g) w0 w' ∧ Fr (fun x => x = m1 ∨ x = m2) w w') := by
  obtain ⟨a, cp, ev⟩ := own_slice hown
  subst ev
  have hnR : ∀ x ∈ restB b m1 m2 m3 fi, ¬ ∃ o, spGet sp k = some o ∧ x = o.g := fun x hx ⟨o, ho, e⟩ => h.dj o (spGet_some ho).1 (by rw [← e]; exact hx)
  have mr : ∀ x ∈ [b, m1, m2, m3], x ∈ restB b m1 m2 m3 fi := fun x hx => by
    unfold restB
    simp at hx ⊢
    rcases hx with h | h | h | h <;> simp [h]
  have hT := h.tab.keep f0 (hnR b (mr _ (by simp)))
  have hM2 := h.map2.keep f0 (hnR m2 (mr _ (by simp)))
  have hnd := h.rs
  unfold restB at hnd
  simp only [List.nodup_cons, List.mem_cons, not_or] at hnd
  obtain ⟨⟨n1, n2, n3, n4⟩, ⟨n5, n6, n7⟩, ⟨n8, n9⟩, n10, n11⟩ := hnd
  have s0 := f0.size
  have lb := h.tab.lt
  have l1 := h.map1.lt
  have l2 := h.map2.lt
  refine call_sound T_ok fun_remset_Sets_refine rfl (by kernel_rfl) rfl (Kp ?_)
  refine NewC_blk (fun p w1 hp1 h1 f1 s1 => ?_)
  have h1 : Blk w1 p t_p_remset_Sets [.pointer (some ⟨b, 0, none⟩)] := h1
  refine NewC_blk (fun q w2 hq2 h2 f2 s2 => ?_)
  have h2 : Blk w2 q t_remset_pair (pairL k) := h2
  have h1 := h1.keep f2 id
  have f02 := f1.no f2
  refine AnyC_plan T_ok mixed (planO [0,1,2,3,4,1005]) (fun w' => Blk w' p t_p_remset_Sets [.pointer (some ⟨b, 0, none⟩)] ∧ Blk w' b t_remset_Sets (setsL n per m1 m2 m3) ∧ Blk w' q t_remset_pair (pairL k)) (by kernel_rfl) (by kernel_rfl) ⟨h1.keep (Fr.drew w2) id, (hT.keep f02 id).keep (Fr.drew w2) id, h2.keep (Fr.drew w2) id⟩ (Kp ?_)
  refine LdS_of (fun w' hw => hw.1) rfl ?_
  refine LdS_of (fun w' hw => hw.2.1) rfl ?_
  refine LdSN_of (vs := pairL k) (fun w' hw => hw.2.2) rfl rfl ?_
  refine ⟨?_, trivial⟩
  refine DelC T_ok (kv := pairV) rfl keyP ((hM1.keep f02 id).keep (Fr.drew w2) id) k (fun w3 hM3 f3 s3 => ?_)
  have f3 := f3.drewL
  have hp3 := h1.keep f3 (by omega)
  have hb3 := (hT.keep f02 id).keep f3 n1
  have hq3 := h2.keep f3 (by omega)
  refine Sd_intro ⟨hp3, hb3, hq3⟩ ?_
  refine LdC_blk hp3 rfl ?_
  refine LdC_blk hb3 rfl ?_
  have s2' := f02.size
  have s3' := f3.size
  refine CallC_intro (bits_New_spec per w3 (by omega) hp2) (fun v w4 ⟨f, r, hv, hS4, f4, hf4, hr4⟩ => ?_)
  subst hv
  have F03 : Fr (fun x => x = m1 ∨ ∃ o, spGet sp k = some o ∧ x = o.g) w0 w3 := (f0.trans f02 (H := fun x => ∃ o, spGet sp k = some o ∧ x = o.g) (fun _ _ e => e) (fun _ _ e => e.elim)).trans f3 (fun _ _ e => .inr e) (fun _ _ e => .inl e)
  have fl : f < w4.heap.size ∧ r < w4.heap.size := bits_lt hS4
  have E04 : Fr (fun x => x = m1) w w4 := (f02.noL f3).trans f4 (fun _ _ e => e) (fun _ _ e => e.elim)
  have hp4 := hp3.keep f4 id
  have hb4 := hb3.keep f4 id
  have hq4 := hq3.keep f4 id
  refine LoopC_intro (α := Int) (fun i => [(27, .slice a l.length cp), (28, .int .i64 l.length), (29, .int .i64 i), (3, .pointer (some ⟨p, 0, none⟩)), (4, .pointer (some ⟨q, 0, none⟩)), (6, .pointer (some ⟨f, 0, none⟩))])
    (fun m i w5 => Fr (fun x => x = r) w4 w5 ∧ 0 ≤ i ∧ i ≤ l.length ∧ IsBits w5 f r per (setOf per (l.take i.toNat)) ∧ m = (l.length - i).toNat)
    l.length 0 ⟨rfl, rfl, rfl, rfl, rfl, rfl, trivial⟩ ⟨Fr.refl _ _, Int.le_refl _, by show (0 : Int) ≤ _; omega, ?_, by show _ = ((l.length : Int) - 0).toNat; omega⟩ (fun m i w5 hJ => Kp ?_)
  · have : setOf per (l.take (0 : Int).toNat) = fun _ => false := by
      funext j
      unfold setOf
      rw [decide_eq_false]
      rintro ⟨c, hc, _⟩
      cases hc
    rw [this]; exact hS4
  obtain ⟨f5, i0, i1, hS5, hm⟩ := hJ
  have i0 : 0 ≤ i := i0
  have i1 : i ≤ l.length := i1
  have hb5 := hb4.keep f5 (show ¬ b = r by omega)
  have hp5 := hp4.keep f5 (show ¬ p = r by omega)
  have hq5 := hq4.keep f5 (show ¬ q = r by omega)
  refine Br_dec (fun g0 => ?_) (fun g0 => ?_)
  · have g0 : i < (l.length : Int) := g0
    have hi' : i.toNat < l.length := by omega
    -- the row of the list still stands
    have hg : Own w5 0 (.slice a l.length cp) l := by
      have hk3 : Own w3 0 (.slice a l.length cp) l := own_keepV (hown.keep f02 (fun _ _ => id)) f3 (fun x hx e => hlm x hx e)
      have hk4 := hk3.keep f4 (fun _ _ => id)
      exact own_keepV hk4 f5 (fun x hx e => by have := hk3.lt x hx; omega)
    obtain ⟨ad, rfl, hc⟩ := hg.ints.cell hi'
    have hc0 := hl0 _ (List.getElem_mem hi')
    refine Sd_intro (show 0 ≤ i ∧ i < (l.length : Int) by omega) ?_
    refine LdC_intro (v := .int .i64 l[i.toNat]) (by rw [Nat.mul_one]; exact hc) ?_
    refine LdC_blk hp5 rfl ?_
    refine LdC_blk hb5 rfl ?_
    refine Sd_intro (by omega) ?_
    have em : l[i.toNat].tmod per = l[i.toNat] % per := Int.tmod_eq_emod_of_nonneg hc0
    have e0 := Int.emod_nonneg l[i.toNat] (show per ≠ 0 by omega)
    have e1 := Int.emod_lt_of_pos l[i.toNat] (show 0 < per by omega)
    refine CallC_intro (Put_spec (l[i.toNat].tmod per) w5 hS5 (by omega) (by omega)) (fun v w6 ⟨hv, hS6, f6⟩ => ?_)
    subst hv
    refine ⟨(l.length - (i + 1)).toNat, _, by omega, ?_, i + 1, rfl, f5.same f6, (show 0 ≤ i + 1 by omega), (show i + 1 ≤ (l.length : Int) by omega), ?_, rfl⟩
    · exact ⟨rfl, rfl, look_int rfl (wrap_i64 (by omega) (by omega)), rfl, rfl, rfl, trivial⟩
    · show IsBits w6 f r per (setOf per (l.take (i + 1).toNat))
      rw [show (i + 1).toNat = i.toNat + 1 by omega, setOf_snoc per l hi', ← em]; exact hS6
  have g0 : ¬ i < (l.length : Int) := g0
  have hS5 : IsBits w5 f r per (setOf per l) := by
    rw [List.take_of_length_le (by omega)] at hS5; exact hS5
  have F05 : Fr (fun x => x = m1 ∨ ∃ o, spGet sp k = some o ∧ x = o.g) w0 w5 := (F03.trans f4 (H := fun x => x = m1 ∨ ∃ o, spGet sp k = some o ∧ x = o.g) (fun _ _ e => e) (fun _ _ e => e.elim)).new f5 (fun _ _ e => e) (fun x e => by omega)
  have hM2' : MapG pairV w5 m2 (fiM fi) := h.map2.keep F05 (fun e => by
    rcases e with e | e
    · exact n5 e.symm
    · exact hnR m2 (mr _ (by simp)) e)
  have hM1' : MapG pairV w5 m1 (delM (spM sp) k) := (hM3.keep f4 id).keep f5 (show ¬ m1 = r by omega)
  have s45 := f4.size
  have s5' := f5.size
  refine AnyC_plan T_ok mixed (planO [0,1,2,3,4,5,1006]) (fun w' => Blk w' p t_p_remset_Sets [.pointer (some ⟨b, 0, none⟩)] ∧ Blk w' b t_remset_Sets (setsL n per m1 m2 m3) ∧ Blk w' q t_remset_pair (pairL k)) (by kernel_rfl) (by kernel_rfl) ⟨hp5.keep (Fr.drew w5) id, hb5.keep (Fr.drew w5) id, hq5.keep (Fr.drew w5) id⟩ (Kp ?_)
  refine LdS_of (fun w' hw => hw.1) rfl ?_
  refine LdS_of (fun w' hw => hw.2.1) rfl ?_
  refine LdSN_of (vs := pairL k) (fun w' hw => hw.2.2) rfl rfl ?_
  refine ⟨?_, trivial⟩
  refine UpdC T_ok (kv := pairV) rfl keyP (hM2'.keep (Fr.drew w5) id) k _ (fun w6 hM6 f6 s6 => ?_)
  have f6 := f6.drewL
  have hp6 := hp5.keep f6 (show ¬ p = m2 by omega)
  have hb6 := hb5.keep f6 n2
  have hq6 := hq5.keep f6 (show ¬ q = m2 by omega)
  refine Sd_intro ⟨hp6, hb6, hq6⟩ ?_
  have hS6 := hS5.keep f6 (show ¬ f = m2 by omega) (show ¬ r = m2 by omega)
  have F06 : Fr (fun x => x = m1 ∨ x = m2 ∨ ∃ o, spGet sp k = some o ∧ x = o.g) w0 w6 := F05.trans f6 (fun _ _ e => by rcases e with e | e; exact .inl e; exact .inr (.inr e)) (fun _ _ e => .inr (.inl e))
  have E06 : Fr (fun x => x = m1 ∨ x = m2) w w6 := (E04.new f5 (fun _ _ e => e) (fun x e => by omega)).trans f6 (fun _ _ e => .inl e) (fun _ _ e => .inr e)
  have G : SetsG w6 b m1 m2 m3 n per (delSp sp k) (fi ++ [⟨k, f, r, setOf per l⟩]) co := h.refine (e := ⟨k, f, r, setOf per l⟩) F06 (fun _ e => e) (hM1'.keep f6 n5) hi hM6 hS6 (by show _ ≤ f; omega) (by show _ ≤ r; omega)
  refine LdC_blk hp6 rfl ?_
  refine LdC_blk hb6 rfl ?_
  refine RangeC T_ok rfl hM6 (fun it w7 hit hI7 f7 s7 => ?_)
  have s6' := f6.size
  have hcnt : (ofHome k.1 (putM (fiM fi) k (.pointer (some ⟨f, 0, none⟩)))).length ≤ 4 := by
    unfold putM
    rw [hi]
    unfold ofHome
    rw [List.filter_append, List.length_append]
    unfold ofHome at hfew
    have : ([(k, Value.pointer (some ⟨f, 0, none⟩))].filter fun x : (Int × Int) × Value => decide (x.1.1 = k.1)).length ≤ 1 := List.length_filter_le _ _
    omega
  have hkn : ∀ {w' : World} {left : List ((Int × Int) × Value)} {cur : Option ((Int × Int) × Value)}, IterG pairV w' m2 it (putM (fiM fi) k (.pointer (some ⟨f, 0, none⟩))) left cur → (left.map (·.1)).Nodup := fun hI => by
    obtain ⟨_, es, clock, since, seen, c0, _, _, h3, _, _, _, _, _, _, h10, _⟩ := hI
    exact h3.sublist (h10.map _)
  refine LoopC_intro (α := Value) (fun av => [(52, .pointer (some ⟨it, 0, none⟩)), (4, .pointer (some ⟨q, 0, none⟩)), (10, av)])
    (fun m av w8 => Fr No w6 w8 ∧ Blk w8 q t_remset_pair (pairL k) ∧ ∃ left cur al, IterG pairV w8 m2 it (putM (fiM fi) k (.pointer (some ⟨f, 0, none⟩))) left cur ∧ w8.ownsRow w7.heap.size t_remset_pair 2 av al.length (pairsL al) ∧ al.length + (ofHome k.1 left).length ≤ 4 ∧ m = left.length)
    (putM (fiM fi) k (.pointer (some ⟨f, 0, none⟩))).length (.slice none 0 0) ⟨rfl, rfl, rfl, trivial⟩ ⟨f7, hq6.keep f7 id, _, none, [], hI7, World.ownsRow_nil _ _ _ _, by simpa using hcnt, rfl⟩ (fun m av w8 hJ => Kp ?_)
  obtain ⟨f8, hq8, left, cur, al, hI8, own8, hal, hm⟩ := hJ
  have s8 := f8.size
  refine NextC pairV_inj hI8 (fun hl => ?_) (fun x hx w9 hI9 f9 s9 => ?_)
  · obtain ⟨aa, cc, ea⟩ := own_slice own8
    subst ea
    refine Br_dt (show (al.length : Int) ≤ 4 by omega) ?_
    have G8 := G.keep f8 (fun _ _ => id) (fun _ _ => id)
    refine ⟨rfl, ⟨f, r, G8, by omega, by omega⟩, ?_, ?_⟩
    · exact F06.trans f8 (fun _ _ e => e) (fun _ _ e => e.elim)
    · exact E06.trans f8 (fun _ _ e => e) (fun _ _ e => e.elim)
  · have f69 : Fr No w6 w9 := f8.new f9 (fun _ _ e => e) (fun y e => by omega)
    have hq9 := hq8.keep f9 (show ¬ q = it by omega)
    refine EntryC hI9 ?_
    refine NewC_blk (fun pp w10 hpp h10 f10 s10 => ?_)
    refine StN_blk h10 rfl (Nat.le_of_ble_eq_true rfl) (fun w11 h11 f11 s11 => ?_)
    have h11 : Blk w11 pp t_remset_pair (pairL x.1) := h11
    have f911 : Fr No w9 w11 := f10.new f11 (fun _ _ e => e) (fun y e => by omega)
    have hq11 := hq9.keep f911 id
    have hI11 := hI9.keep f911 id id
    have F11 := f69.no f911
    have own11 := own_keep (own_keepV own8 f9 (fun y hy e => by
      have h1 := own_ge own8 y hy
      have h2 := hI7.lt
      omega)) f911 (fun _ _ => id)
    have hlt : (delM left x.1).length < left.length := by
      unfold delM
      exact List.length_filter_lt_length_iff_exists.2 ⟨x, hx, by simp⟩
    have hcd := ofHome_del (hm := k.1) (hkn hI8) hx
    refine LdC_blk h11 rfl ?_
    refine LdC_blk hq11 rfl ?_
    refine Br_dec (fun g1 => ?_) (fun g1 => ?_)
    · have g1 : x.1.1 = k.1 := g1
      rw [if_pos g1] at hcd
      refine LdN_blk (vs := pairL x.1) h11 rfl rfl ?_
      refine NewC_blk (fun qq w12 hqq h12 f12 s12 => ?_)
      have h12 : Blk w12 qq t_remset_pair (pairL x.1) := h12
      have own12 : w12.ownsRow w7.heap.size t_remset_pair 2 av al.length (pairsL al) := own_keep own11 f12 (fun _ _ => id)
      have s11' := F11.size
      have s12' := f12.size
      have s9' := f911.size
      refine ApL T_ok (base := w7.heap.size) (xs := pairsL al) (news := pairL x.1) rfl rfl rfl (by decide) own12 (by have := f8.size; have := (f7.size); have := hI8.lt; omega) h12 rfl rfl rfl (by omega) (show (al.length + 1) * 16 ≤ _ by omega) (fun v' w13 own13 f13 loc => ?_)
      have hne13 : ∀ y, av.ownBlock = some y → w7.heap.size ≤ y := fun y e => own_ge own12 y e
      refine ⟨_, _, (by rw [hm]; exact hlt), ?_, v', rfl, (F11.no f12).new f13 (fun _ _ e => e) (fun y e => by have := hne13 y e; omega), ?_, delM left x.1, some x, al ++ [x.1], ?_, ?_, ?_, rfl⟩
      · exact ⟨rfl, rfl, rfl, trivial⟩
      · exact (hq11.keep f12 id).keep f13 (fun e => by have := hne13 q e; omega)
      · exact (hI11.keep f12 id id).keep f13 (fun e => by have := hne13 m2 e; omega) (fun e => by have := hne13 it e; omega)
      · rw [List.length_append, pairsL_app]; exact own13
      · rw [List.length_append]; show al.length + 1 + _ ≤ 4; omega
    · have g1 : ¬ x.1.1 = k.1 := g1
      rw [if_neg g1] at hcd
      refine ⟨_, _, (by rw [hm]; exact hlt), ?_, av, rfl, F11, hq11, delM left x.1, some x, al, hI11, own11, by omega, rfl⟩
      exact ⟨rfl, rfl, rfl, trivial⟩
end Go.Proofs.YtdhbpklmkibmbaaGreat
