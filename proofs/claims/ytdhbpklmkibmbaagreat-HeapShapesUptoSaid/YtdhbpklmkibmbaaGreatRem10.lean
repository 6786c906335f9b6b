/- Layer 11 (remset): a source becomes fine, and one of too many coarse. -/
import Derived.Test.YtdhbpklmkibmbaaGreatRem6
namespace Go.Proofs.YtdhbpklmkibmbaaGreat
open Go.Vc

/-- The fine sources of a home. -/
def homeK (hm : Int) (fi : List FiE) : List (Int × Int) := fi.flatMap fun e => if e.k.1 = hm then [e.k] else []
theorem homeK_mem {hm : Int} {fi : List FiE} {z : Int × Int} (h : z ∈ homeK hm fi) : z ∈ fi.map (·.k) := by
  unfold homeK at h
  obtain ⟨e, he, hz⟩ := List.mem_flatMap.1 h
  split at hz
  · exact List.mem_map.2 ⟨e, he, (List.mem_singleton.1 hz).symm⟩
  · cases hz
theorem flat_delK {α κ β : Type} [DecidableEq κ] (key : α → κ) {F : α → List β} {l : List α} {x : α} (nd : (l.map key).Nodup) (hx : x ∈ l) : (l.flatMap F).Perm (F x ++ (l.filter fun y => !decide (key y = key x)).flatMap F) := by
  induction l with
  | nil => cases hx
  | cons y l ih =>
    rw [List.map_cons, List.nodup_cons] at nd
    rcases List.mem_cons.1 hx with e | h
    · subst e
      have : (x :: l).filter (fun y => !decide (key y = key x)) = l := by
        rw [List.filter_cons, if_neg (by simp), List.filter_eq_self]
        intro z hz
        simp only [Bool.not_eq_true', decide_eq_false_iff_not]
        intro e2
        exact nd.1 (List.mem_map.2 ⟨z, hz, e2⟩)
      rw [this, List.flatMap_cons]
    · have hne : key y ≠ key x := fun e => nd.1 (List.mem_map.2 ⟨x, h, e.symm⟩)
      rw [List.filter_cons, if_pos (by simp [hne]), List.flatMap_cons, List.flatMap_cons]
      refine ((ih nd.2 h).append_left (F y)).trans ?_
      rw [← List.append_assoc, ← List.append_assoc]
      exact List.perm_append_comm.append_right _
def toB (l : List (Int × Int)) (h : ∀ z ∈ l, 0 ≤ z.2 ∧ z.2 ≤ 65536) : List BP := l.attach.map fun z => ⟨z.1, h z.1 z.2⟩
theorem toB_fst (l : List (Int × Int)) (h : ∀ z ∈ l, 0 ≤ z.2 ∧ z.2 ≤ 65536) : (toB l h).map (·.1) = l := by
  unfold toB
  rw [List.map_map]
  exact List.attach_map_subtype_val l
theorem sub_flat {α β : Type} (f : α → List β) {l1 l2 : List α} (h : l1.Sublist l2) : (l1.flatMap f).Sublist (l2.flatMap f) := by
  induction h with
  | slnil => exact List.Sublist.refl _
  | cons a _ ih => rw [List.flatMap_cons]; exact ih.trans (List.sublist_append_right _ _)
  | cons_cons a _ ih => rw [List.flatMap_cons, List.flatMap_cons]; exact (List.Sublist.refl _).append ih
/-- Fine sources go, or become coarse. -/
theorem SetsG.less {w w' : World} {b m1 m2 m3 : Nat} {n per : Int} {sp sp' : List SpE} {fi fi' : List FiE} {co co' : List (Int × Int)} (h : SetsG w b m1 m2 m3 n per sp fi co) (hs : sp'.Sublist sp) (hfi : fi'.Sublist fi) {F : Nat → Prop} (f : Fr F w w')
    (hF : ∀ x, F x → x = m1 ∨ x = m2 ∨ x = m3) (hM1 : MapG pairV w' m1 (spM sp')) (hM2 : MapG pairV w' m2 (fiM fi')) (hM3 : MapG pairV w' m3 (coM co')) : SetsG w' b m1 m2 m3 n per sp' fi' co' := by
  have hnd := h.rs
  have hsubR : (restB b m1 m2 m3 fi').Sublist (restB b m1 m2 m3 fi) := by
    unfold restB
    exact ((((sub_flat _ hfi).cons_cons _).cons_cons _).cons_cons _).cons_cons _
  have mr : ∀ x ∈ [m1, m2, m3], x ∈ restB b m1 m2 m3 fi := fun x hx => by
    unfold restB
    simp at hx ⊢
    rcases hx with h | h | h <;> simp [h]
  unfold restB at hnd
  simp only [List.nodup_cons, List.mem_cons, not_or] at hnd
  obtain ⟨⟨n1, n2, n3, n4⟩, ⟨n5, n6, n7⟩, ⟨n8, n9⟩, n10, n11⟩ := hnd
  have hset : ∀ e ∈ fi, ∀ x ∈ [e.f, e.r], ¬ F x := fun e he x hx hf => by
    have : x ∈ fi.flatMap (fun e => [e.f, e.r]) := List.mem_flatMap.2 ⟨e, he, hx⟩
    rcases hF x hf with e1 | e1 | e1
    · exact n7 (e1 ▸ this)
    · exact n9 (e1 ▸ this)
    · exact n10 (e1 ▸ this)
  refine ⟨h.tab.keep f (fun hf => ?_), hM1, hM2, hM3, fun e he => own_keepV (h.rows e (hs.subset he)) f (fun x hx hf => ?_), fun e he => (h.sets e (hfi.subset he)).keep f (hset e (hfi.subset he) e.f (by simp)) (hset e (hfi.subset he) e.r (by simp)), h.gs.sublist (hs.map _), h.rs.sublist hsubR, fun e he hm => h.dj e (hs.subset he) (hsubR.subset hm)⟩
  · rcases hF b hf with e1 | e1 | e1
    · exact n1 e1
    · exact n2 e1
    · exact n3 e1
  · injection hx with hx
    have hx : e.g = x := hx
    rcases hF x hf with e1 | e1 | e1
    · exact h.dj e (hs.subset he) (by rw [hx, e1]; exact mr _ (by simp))
    · exact h.dj e (hs.subset he) (by rw [hx, e1]; exact mr _ (by simp))
    · exact h.dj e (hs.subset he) (by rw [hx, e1]; exact mr _ (by simp))
set_option maxHeartbeats 2000000 in
theorem refine_any {b m1 m2 m3 : Nat} {n per : Int} {sp : List SpE} {fi : List FiE} {co : List (Int × Int)} (k : Int × Int) (lv : Value) (l : List Int) (w0 w : World) (h : SetsG w0 b m1 m2 m3 n per sp fi co) (f0 : Fr (fun x => ∃ o, spGet sp k = some o ∧ x = o.g) w0 w) (hM1 : MapG pairV w m1 (spM sp))
    (hown : Own w 0 lv l) (hlm : ∀ x, lv.ownBlock = some x → x ≠ m1) (hl0 : ∀ c ∈ l, 0 ≤ c) (hll : l.length ≤ 1000) (hp : 1 ≤ per) (hp2 : per ≤ 4194304) (hi : idxM (fiM fi) k = none) (hfive : (homeK k.1 fi).length ≤ 4) (hsrc : ∀ e ∈ fi, 0 ≤ e.k.2 ∧ e.k.2 ≤ 65536) (hks : 0 ≤ k.2 ∧ k.2 ≤ 65536) (hfc : ∀ e ∈ fi, e.k ∉ co) (hkc : k ∉ co) :
    CallC Pr f_remset_Sets_refine [.pointer (some ⟨b, 0, none⟩), pairV k, lv] w (fun v w' => v = .tuple #[] ∧ (∃ f r fi1, fi1 = fi ++ [⟨k, f, r, setOf per l⟩] ∧ w0.heap.size ≤ f ∧ w0.heap.size ≤ r ∧
        (((homeK k.1 fi1).length ≤ 4 ∧ SetsG w' b m1 m2 m3 n per (delSp sp k) fi1 co) ∨ (4 < (homeK k.1 fi1).length ∧ ∃ x L, (x :: L).Perm (homeK k.1 fi1) ∧ (x :: L).Pairwise (fun a b => a.2 ≤ b.2) ∧ SetsG w' b m1 m2 m3 n per (delSp sp k) (delFi fi1 (maxP (szF per fi1) x L)) (co ++ [maxP (szF per fi1) x L])))) ∧
      Fr (fun x => x = m1 ∨ x = m2 ∨ x = m3 ∨ ∃ o, spGet sp k = some o ∧ x = o.g) w0 w' ∧ Fr (fun x => x = m1 ∨ x = m2 ∨ x = m3) w w') := by
  obtain ⟨a, cp, ev⟩ := own_slice hown
  subst ev
  have hnR : ∀ x ∈ restB b m1 m2 m3 fi, ¬ ∃ o, spGet sp k = some o ∧ x = o.g := fun x hx ⟨o, ho, e⟩ => h.dj o (spGet_some ho).1 (by rw [← e]; exact hx)
  have mr : ∀ x ∈ [b, m1, m2, m3], x ∈ restB b m1 m2 m3 fi := fun x hx => by
    unfold restB
    simp at hx ⊢
    rcases hx with h | h | h | h <;> simp [h]
  have hT := h.tab.keep f0 (hnR b (mr _ (by simp)))
  have hM2 := h.map2.keep f0 (hnR m2 (mr _ (by simp)))
  have hnd := h.rs
  unfold restB at hnd
  simp only [List.nodup_cons, List.mem_cons, not_or] at hnd
  obtain ⟨⟨n1, n2, n3, n4⟩, ⟨n5, n6, n7⟩, ⟨n8, n9⟩, n10, n11⟩ := hnd
  have s0 := f0.size
  have lb := h.tab.lt
  have l1 := h.map1.lt
  have l2 := h.map2.lt
  have l3 := h.map3.lt
  refine call_sound T_ok fun_remset_Sets_refine rfl (by kernel_rfl) rfl (Kp ?_)
  refine NewC_blk (fun p w1 hp1 h1 f1 s1 => ?_)
  have h1 : Blk w1 p t_p_remset_Sets [.pointer (some ⟨b, 0, none⟩)] := h1
  refine NewC_blk (fun q w2 hq2 h2 f2 s2 => ?_)
  have h2 : Blk w2 q t_remset_pair (pairL k) := h2
  have h1 := h1.keep f2 id
  have f02 := f1.no f2
  refine AnyC_plan T_ok mixed (planO [0,1,2,3,4,1005]) (fun w' => Blk w' p t_p_remset_Sets [.pointer (some ⟨b, 0, none⟩)] ∧ Blk w' b t_remset_Sets (setsL n per m1 m2 m3) ∧ Blk w' q t_remset_pair (pairL k)) (by kernel_rfl) (by kernel_rfl) ⟨h1.keep (Fr.drew w2) id, (hT.keep f02 id).keep (Fr.drew w2) id, h2.keep (Fr.drew w2) id⟩ (Kp ?_)
  refine LdS_of (fun w' hw => hw.1) rfl ?_
  refine LdS_of (fun w' hw => hw.2.1) rfl ?_
  refine LdSN_of (vs := pairL k) (fun w' hw => hw.2.2) rfl rfl ?_
  refine ⟨?_, trivial⟩
  refine DelC T_ok (kv := pairV) rfl keyP ((hM1.keep f02 id).keep (Fr.drew w2) id) k (fun w3 hM3 f3 s3 => ?_)
  have f3 := f3.drewL
  have hp3 := h1.keep f3 (by omega)
  have hb3 := (hT.keep f02 id).keep f3 n1
  have hq3 := h2.keep f3 (by omega)
  refine Sd_intro ⟨hp3, hb3, hq3⟩ ?_
  refine LdC_blk hp3 rfl ?_
  refine LdC_blk hb3 rfl ?_
  have s2' := f02.size
  have s3' := f3.size
  refine CallC_intro (bits_New_spec per w3 (by omega) hp2) (fun v w4 ⟨f, r, hv, hS4, f4, hf4, hr4⟩ => ?_)
  subst hv
  have F03 : Fr (fun x => x = m1 ∨ ∃ o, spGet sp k = some o ∧ x = o.g) w0 w3 := (f0.trans f02 (H := fun x => ∃ o, spGet sp k = some o ∧ x = o.g) (fun _ _ e => e) (fun _ _ e => e.elim)).trans f3 (fun _ _ e => .inr e) (fun _ _ e => .inl e)
  have fl : f < w4.heap.size ∧ r < w4.heap.size := bits_lt hS4
  have E04 : Fr (fun x => x = m1) w w4 := (f02.noL f3).trans f4 (fun _ _ e => e) (fun _ _ e => e.elim)
  have hp4 := hp3.keep f4 id
  have hb4 := hb3.keep f4 id
  have hq4 := hq3.keep f4 id
  refine LoopC_intro (α := Int) (fun i => [(27, .slice a l.length cp), (28, .int .i64 l.length), (29, .int .i64 i), (3, .pointer (some ⟨p, 0, none⟩)), (4, .pointer (some ⟨q, 0, none⟩)), (6, .pointer (some ⟨f, 0, none⟩))])
    (fun m i w5 => Fr (fun x => x = r) w4 w5 ∧ 0 ≤ i ∧ i ≤ l.length ∧ IsBits w5 f r per (setOf per (l.take i.toNat)) ∧ m = (l.length - i).toNat)
    l.length 0 ⟨rfl, rfl, rfl, rfl, rfl, rfl, trivial⟩ ⟨Fr.refl _ _, Int.le_refl _, by show (0 : Int) ≤ _; omega, ?_, by show _ = ((l.length : Int) - 0).toNat; omega⟩ (fun m i w5 hJ => Kp ?_)
  · have : setOf per (l.take (0 : Int).toNat) = fun _ => false := by
      funext j
      unfold setOf
      rw [decide_eq_false]
      rintro ⟨c, hc, _⟩
      cases hc
    rw [this]; exact hS4
  obtain ⟨f5, i0, i1, hS5, hm⟩ := hJ
  have i0 : 0 ≤ i := i0
  have i1 : i ≤ l.length := i1
  have hb5 := hb4.keep f5 (show ¬ b = r by omega)
  have hp5 := hp4.keep f5 (show ¬ p = r by omega)
  have hq5 := hq4.keep f5 (show ¬ q = r by omega)
  refine Br_dec (fun g0 => ?_) (fun g0 => ?_)
  · have g0 : i < (l.length : Int) := g0
    have hi' : i.toNat < l.length := by omega
    -- the row of the list still stands
    have hg : Own w5 0 (.slice a l.length cp) l := by
      have hk3 : Own w3 0 (.slice a l.length cp) l := own_keepV (hown.keep f02 (fun _ _ => id)) f3 (fun x hx e => hlm x hx e)
      have hk4 := hk3.keep f4 (fun _ _ => id)
      exact own_keepV hk4 f5 (fun x hx e => by have := hk3.lt x hx; omega)
    obtain ⟨ad, rfl, hc⟩ := hg.ints.cell hi'
    have hc0 := hl0 _ (List.getElem_mem hi')
    refine Sd_intro (show 0 ≤ i ∧ i < (l.length : Int) by omega) ?_
    refine LdC_intro (v := .int .i64 l[i.toNat]) (by rw [Nat.mul_one]; exact hc) ?_
    refine LdC_blk hp5 rfl ?_
    refine LdC_blk hb5 rfl ?_
    refine Sd_intro (by omega) ?_
    have em : l[i.toNat].tmod per = l[i.toNat] % per := Int.tmod_eq_emod_of_nonneg hc0
    have e0 := Int.emod_nonneg l[i.toNat] (show per ≠ 0 by omega)
    have e1 := Int.emod_lt_of_pos l[i.toNat] (show 0 < per by omega)
    refine CallC_intro (Put_spec (l[i.toNat].tmod per) w5 hS5 (by omega) (by omega)) (fun v w6 ⟨hv, hS6, f6⟩ => ?_)
    subst hv
    refine ⟨(l.length - (i + 1)).toNat, _, by omega, ?_, i + 1, rfl, f5.same f6, (show 0 ≤ i + 1 by omega), (show i + 1 ≤ (l.length : Int) by omega), ?_, rfl⟩
    · exact ⟨rfl, rfl, look_int rfl (wrap_i64 (by omega) (by omega)), rfl, rfl, rfl, trivial⟩
    · show IsBits w6 f r per (setOf per (l.take (i + 1).toNat))
      rw [show (i + 1).toNat = i.toNat + 1 by omega, setOf_snoc per l hi', ← em]; exact hS6
  have g0 : ¬ i < (l.length : Int) := g0
  have hS5 : IsBits w5 f r per (setOf per l) := by
    rw [List.take_of_length_le (by omega)] at hS5; exact hS5
  have F05 : Fr (fun x => x = m1 ∨ ∃ o, spGet sp k = some o ∧ x = o.g) w0 w5 := (F03.trans f4 (H := fun x => x = m1 ∨ ∃ o, spGet sp k = some o ∧ x = o.g) (fun _ _ e => e) (fun _ _ e => e.elim)).new f5 (fun _ _ e => e) (fun x e => by omega)
  have hM2' : MapG pairV w5 m2 (fiM fi) := h.map2.keep F05 (fun e => by
    rcases e with e | e
    · exact n5 e.symm
    · exact hnR m2 (mr _ (by simp)) e)
  have hM1' : MapG pairV w5 m1 (delM (spM sp) k) := (hM3.keep f4 id).keep f5 (show ¬ m1 = r by omega)
  have s45 := f4.size
  have s5' := f5.size
  refine AnyC_plan T_ok mixed (planO [0,1,2,3,4,5,1006]) (fun w' => Blk w' p t_p_remset_Sets [.pointer (some ⟨b, 0, none⟩)] ∧ Blk w' b t_remset_Sets (setsL n per m1 m2 m3) ∧ Blk w' q t_remset_pair (pairL k)) (by kernel_rfl) (by kernel_rfl) ⟨hp5.keep (Fr.drew w5) id, hb5.keep (Fr.drew w5) id, hq5.keep (Fr.drew w5) id⟩ (Kp ?_)
  refine LdS_of (fun w' hw => hw.1) rfl ?_
  refine LdS_of (fun w' hw => hw.2.1) rfl ?_
  refine LdSN_of (vs := pairL k) (fun w' hw => hw.2.2) rfl rfl ?_
  refine ⟨?_, trivial⟩
  refine UpdC T_ok (kv := pairV) rfl keyP (hM2'.keep (Fr.drew w5) id) k _ (fun w6 hM6 f6 s6 => ?_)
  have f6 := f6.drewL
  have hp6 := hp5.keep f6 (show ¬ p = m2 by omega)
  have hb6 := hb5.keep f6 n2
  have hq6 := hq5.keep f6 (show ¬ q = m2 by omega)
  refine Sd_intro ⟨hp6, hb6, hq6⟩ ?_
  have hS6 := hS5.keep f6 (show ¬ f = m2 by omega) (show ¬ r = m2 by omega)
  have F06 : Fr (fun x => x = m1 ∨ x = m2 ∨ ∃ o, spGet sp k = some o ∧ x = o.g) w0 w6 := F05.trans f6 (fun _ _ e => by rcases e with e | e; exact .inl e; exact .inr (.inr e)) (fun _ _ e => .inr (.inl e))
  have E06 : Fr (fun x => x = m1 ∨ x = m2) w w6 := (E04.new f5 (fun _ _ e => e) (fun x e => by omega)).trans f6 (fun _ _ e => .inl e) (fun _ _ e => .inr e)
  have G : SetsG w6 b m1 m2 m3 n per (delSp sp k) (fi ++ [⟨k, f, r, setOf per l⟩]) co := h.refine (e := ⟨k, f, r, setOf per l⟩) F06 (fun _ e => e) (hM1'.keep f6 n5) hi hM6 hS6 (by show _ ≤ f; omega) (by show _ ≤ r; omega)
  obtain ⟨fi1, efi1⟩ : ∃ fi1, fi1 = fi ++ [⟨k, f, r, setOf per l⟩] := ⟨_, rfl⟩
  have hM6 : MapG pairV w6 m2 (fiM fi1) := by rw [efi1]; have := put_fiM (e := ⟨k, f, r, setOf per l⟩) hi; rw [this]; exact hM6
  rw [← efi1] at G
  have hfi1 : ∀ e ∈ fi1, (0 ≤ e.k.2 ∧ e.k.2 ≤ 65536) ∧ e.k ∉ co := fun e he => by
    rw [efi1] at he
    rcases List.mem_append.1 he with h | h
    · exact ⟨hsrc e h, hfc e h⟩
    · have := List.mem_singleton.1 h
      subst this; exact ⟨hks, hkc⟩
  have hfive1 : (homeK k.1 fi1).length ≤ 5 := by
    rw [efi1]; unfold homeK at hfive ⊢
    rw [List.flatMap_append, List.length_append]
    have : ([(⟨k, f, r, setOf per l⟩ : FiE)].flatMap fun e => if e.k.1 = k.1 then [e.k] else []).length ≤ 1 := by simp
    omega
  refine LdC_blk hp6 rfl ?_
  refine LdC_blk hb6 rfl ?_
  refine RangeC T_ok rfl hM6 (fun it w7 hit hI7 f7 s7 => ?_)
  have s6' := f6.size
  refine LoopC_intro (α := Value) (fun av => [(52, .pointer (some ⟨it, 0, none⟩)), (3, .pointer (some ⟨p, 0, none⟩)), (4, .pointer (some ⟨q, 0, none⟩)), (10, av)])
    (fun m av w8 => Fr No w6 w8 ∧ Blk w8 p t_p_remset_Sets [.pointer (some ⟨b, 0, none⟩)] ∧ Blk w8 q t_remset_pair (pairL k) ∧ ∃ left cur al fil, IterG pairV w8 m2 it (fiM fi1) left cur ∧ w8.ownsRow w7.heap.size t_remset_pair 2 av al.length (pairsL al) ∧ left = fiM fil ∧ fil.Sublist fi1 ∧ (al ++ homeK k.1 fil).Perm (homeK k.1 fi1) ∧ m = left.length)
    (fiM fi1).length (.slice none 0 0) ⟨rfl, rfl, rfl, rfl, trivial⟩ ⟨f7, hp6.keep f7 id, hq6.keep f7 id, _, none, [], fi1, hI7, World.ownsRow_nil _ _ _ _, rfl, List.Sublist.refl _, List.Perm.refl _, rfl⟩ (fun m av w8 hJ => Kp ?_)
  obtain ⟨f8, hp8, hq8, left, cur, al, fil, hI8, own8, rfl, hsub, hperm, hm⟩ := hJ
  have s8 := f8.size
  have hal : al.length ≤ 5 := by have := hperm.length_eq; rw [List.length_append] at this; omega
  refine NextC pairV_inj hI8 (fun hl => ?_) (fun x hx w9 hI9 f9 s9 => ?_)
  · have hfil : fil = [] := by
      cases fil with
      | nil => rfl
      | cons x l => cases hl
    subst hfil
    have hpA : al.Perm (homeK k.1 fi1) := by simpa [homeK] using hperm
    have hlA := hpA.length_eq
    obtain ⟨aa, cc, ea⟩ := own_slice own8
    subst ea
    have G8 := G.keep f8 (fun _ _ => id) (fun _ _ => id)
    refine Br_dec (fun g4 => ?_) (fun g4 => ?_)
    · have g4 : (al.length : Int) ≤ 4 := g4
      refine ⟨rfl, ⟨f, r, fi1, efi1, by omega, by omega, .inl ⟨by omega, G8⟩⟩, ?_, ?_⟩
      · exact F06.trans f8 (fun _ _ e => by rcases e with e | e | e; exact .inl e; exact .inr (.inl e); exact .inr (.inr (.inr e))) (fun _ _ e => e.elim)
      · exact E06.trans f8 (fun _ _ e => by rcases e with e | e; exact .inl e; exact .inr (.inl e)) (fun _ _ e => e.elim)
    · have g4 : ¬ (al.length : Int) ≤ 4 := g4
      have hkeys : ∀ z ∈ al, z ∈ fi1.map (·.k) := fun z hz => homeK_mem (hpA.mem_iff.1 hz)
      have hsm : ∀ z ∈ al, 0 ≤ z.2 ∧ z.2 ≤ 65536 := fun z hz => by
        obtain ⟨e, he, ek⟩ := List.mem_map.1 (hkeys z hz)
        rw [← ek]; exact (hfi1 e he).1
      refine NewC_blk (fun t12 w10 ht12 h10 f10 s10 => ?_)
      refine StC_blk h10 rfl rfl (fun w11 h11 f11 s11 => ?_)
      obtain ⟨u12, h11⟩ : ∃ u, Blk w11 t12 u [.func (.func f_remset_Sets_refine_1) #[] #[.pointer (some ⟨p, 0, none⟩)]] := ⟨_, h11⟩
      have f811 : Fr No w8 w11 := f10.new f11 (fun _ _ e => e) (fun y e => by omega)
      have own11 : OwnP w11 w7.heap.size (.slice aa al.length cc) ((toB al hsm).map (·.1)) := by
        rw [toB_fst]; exact own_keepV own8 f811 (fun _ _ => id)
      have hbl : (toB al hsm).length = al.length := by rw [← List.length_map (f := fun x : BP => x.1), toB_fst]
      refine CallC_intro (SortP_spec (.slice aa al.length cc) (toB al hsm) w11 own11 (by omega)) (fun v w12 hv => ?_)
      obtain ⟨hv, l', hl', hsort, own12, f12⟩ := hv
      subst hv
      have hperm' : (l'.map (·.1)).Perm al := by have := hl'.map (·.1); rw [toB_fst] at this; exact this
      have hsort' : (l'.map (·.1)).Pairwise (fun a b => a.2 ≤ b.2) := List.pairwise_map.2 hsort
      generalize (l'.map (·.1)) = LL at hperm' hsort' own12
      have hLL := hperm'.length_eq
      cases LL with
      | nil => simp at hLL; omega
      | cons x L =>
        have hL4 : L.length = al.length - 1 := by rw [List.length_cons] at hLL; omega
        have s12 := f12.size
        have F612 : Fr No w6 w12 := (f8.no f811).new f12 (fun _ _ e => e) (fun y e => by have := own_ge own8 y e; omega)
        have hpx : ∀ z ∈ x :: L, z ∈ fi1.map (·.k) := fun z hz => hkeys z (hperm'.mem_iff.1 hz)
        have G12 := G.keep F612 (fun _ _ => id) (fun _ _ => id)
        have own12' : OwnP w12 w7.heap.size (.slice aa al.length cc) (x :: L) := own12
        rcases own_cases own12' with ⟨h0, h1, _⟩ | ⟨g, cap, cur, hv, hbg, hbb, htt, _⟩
        · cases h1
        injection hv with hv1 hv2 hv3
        subst hv1
        have own13 : OwnP w12 w7.heap.size (.slice (some ⟨g, 0, none⟩) (x :: L).length cc) (x :: L) := by rw [← hv2]; exact own12'
        have h12t := h11.keep f12 (fun e => by have := (World.ownsRow.lt own8 t12 e).2; omega)
        have hp12 := hp6.keep F612 id
        have hb12 := hb6.keep F612 id
        rw [hv2]
        refine CallC_intro (MaxP_spec x L w12 G12 hp12 h12t own13 (by omega) hpx ⟨by omega, hp2⟩) (fun v w13 ⟨hv, f13⟩ => ?_)
        subst hv
        obtain ⟨M, eM⟩ : ∃ M, M = maxP (szF per fi1) x L := ⟨_, rfl⟩
        rw [← eM]
        have hMk : M ∈ fi1.map (·.k) := by
          rcases maxP_mem (szF per fi1) L x with h | h
          · rw [eM, h]; exact hpx x (by simp)
          · rw [eM]; exact hpx _ (List.mem_cons_of_mem _ h)
        have hMc : M ∉ co := by
          obtain ⟨e, he, ek⟩ := List.mem_map.1 hMk
          rw [← ek]; exact (hfi1 e he).2
        refine NewC_blk (fun t13 w14 ht13 h14 f14 s14 => ?_)
        refine StN_blk h14 rfl (Nat.le_of_ble_eq_true rfl) (fun w15 h15 f15 s15 => ?_)
        have h15 : Blk w15 t13 t_remset_pair (pairL M) := h15
        have f1215 : Fr No w12 w15 := f13.no (f14.new f15 (fun _ _ e => e) (fun y e => by omega))
        have F615 := F612.no f1215
        have s615 := F615.size
        have hp15 := hp12.keep f1215 id
        have hb15 := hb12.keep f1215 id
        have G15 := G12.keep f1215 (fun _ _ => id) (fun _ _ => id)
        have lt13 : m2 < t13 ∧ m3 < t13 := by have := f13.size; omega
        refine AnyC_plan T_ok mixed (planO [0,1,2,3,4,1005]) (fun w' => Blk w' p t_p_remset_Sets [.pointer (some ⟨b, 0, none⟩)] ∧ Blk w' b t_remset_Sets (setsL n per m1 m2 m3) ∧ Blk w' t13 t_remset_pair (pairL M)) (by kernel_rfl) (by kernel_rfl) ⟨hp15.keep (Fr.drew w15) id, hb15.keep (Fr.drew w15) id, h15.keep (Fr.drew w15) id⟩ (Kp ?_)
        refine LdS_of (fun w' hw => hw.1) rfl ?_
        refine LdS_of (fun w' hw => hw.2.1) rfl ?_
        refine LdSN_of (vs := pairL M) (fun w' hw => hw.2.2) rfl rfl ?_
        refine ⟨?_, trivial⟩
        refine DelC T_ok (kv := pairV) rfl keyP (G15.map2.keep (Fr.drew w15) id) M (fun w16 hM16 f16 s16 => ?_)
        have f16 := f16.drewL
        have hp16 := hp15.keep f16 (show ¬ p = m2 by omega)
        have hb16 := hb15.keep f16 n2
        have h16 := h15.keep f16 (show ¬ t13 = m2 by omega)
        refine Sd_intro ⟨hp16, hb16, h16⟩ ?_
        refine AnyC_plan T_ok mixed (planO [0,1,2,3,4,1005]) (fun w' => Blk w' p t_p_remset_Sets [.pointer (some ⟨b, 0, none⟩)] ∧ Blk w' b t_remset_Sets (setsL n per m1 m2 m3) ∧ Blk w' t13 t_remset_pair (pairL M)) (by kernel_rfl) (by kernel_rfl) ⟨hp16.keep (Fr.drew w16) id, hb16.keep (Fr.drew w16) id, h16.keep (Fr.drew w16) id⟩ (Kp ?_)
        refine LdS_of (fun w' hw => hw.1) rfl ?_
        refine LdS_of (fun w' hw => hw.2.1) rfl ?_
        refine LdSN_of (vs := pairL M) (fun w' hw => hw.2.2) rfl rfl ?_
        refine ⟨?_, trivial⟩
        have n8' : m3 ≠ m2 := fun e => n8 e.symm
        refine UpdC T_ok (kv := pairV) rfl keyP ((G15.map3.keep f16 n8').keep (Fr.drew w16) id) M (.bool true) (fun w17 hM17 f17 s17 => ?_)
        have f17 := f17.drewL
        refine Sd_intro ⟨hp16.keep f17 (show ¬ p = m3 by omega), hb16.keep f17 n3, h16.keep f17 (show ¬ t13 = m3 by omega)⟩ ?_
        have hput : putM (coM co) M (.bool true) = coM (co ++ [M]) := by
          have : idxM (coM co) M = none := by
            cases hh : idxM (coM co) M with
            | none => rfl
            | some i =>
              obtain ⟨v, h1, _⟩ := idx_some hh
              have := List.mem_of_getElem? h1
              obtain ⟨z, hz, ez⟩ := List.mem_map.1 this
              injection ez with ez _
              exact absurd (by rw [← ez]; exact hz) hMc
          unfold putM; rw [this]; simp [coM]
        rw [hput] at hM17
        rw [← del_fiM] at hM16
        have f1517 : Fr (fun x => x = m2 ∨ x = m3) w15 w17 := f16.trans f17 (fun _ _ e => .inl e) (fun _ _ e => .inr e)
        have G17 := G15.less (List.Sublist.refl _) (List.filter_sublist (p := fun e : FiE => !decide (e.k = M))) f1517 (fun x e => .inr e) (G15.map1.keep f1517 (fun e => by
          rcases e with e | e
          · exact n5 e
          · exact n6 e)) (hM16.keep f17 n8) hM17
        refine ⟨rfl, ⟨f, r, fi1, efi1, by omega, by omega, .inr ⟨by omega, x, L, hperm'.trans hpA, hsort', by rw [← eM]; exact G17⟩⟩, ?_, ?_⟩
        · exact (F06.trans F615 (H := fun x => x = m1 ∨ x = m2 ∨ x = m3 ∨ ∃ o, spGet sp k = some o ∧ x = o.g) (fun _ _ e => by rcases e with e | e | e; exact .inl e; exact .inr (.inl e); exact .inr (.inr (.inr e))) (fun _ _ e => e.elim)).trans f1517 (fun _ _ e => e) (fun _ _ e => by rcases e with e | e; exact .inr (.inl e); exact .inr (.inr (.inl e)))
        · exact (E06.trans F615 (H := fun x => x = m1 ∨ x = m2 ∨ x = m3) (fun _ _ e => by rcases e with e | e; exact .inl e; exact .inr (.inl e)) (fun _ _ e => e.elim)).trans f1517 (fun _ _ e => e) (fun _ _ e => .inr e)
  · have f69 : Fr No w6 w9 := f8.new f9 (fun _ _ e => e) (fun y e => by omega)
    obtain ⟨e, he, ex⟩ := List.mem_map.1 hx
    subst ex
    have hq9 := hq8.keep f9 (show ¬ q = it by omega)
    have hp9 := hp8.keep f9 (show ¬ p = it by omega)
    refine EntryC hI9 ?_
    refine NewC_blk (fun pp w10 hpp h10 f10 s10 => ?_)
    refine StN_blk h10 rfl (Nat.le_of_ble_eq_true rfl) (fun w11 h11 f11 s11 => ?_)
    have h11 : Blk w11 pp t_remset_pair (pairL e.k) := h11
    have f911 : Fr No w9 w11 := f10.new f11 (fun _ _ e => e) (fun y e => by omega)
    have hq11 := hq9.keep f911 id
    have hp11 := hp9.keep f911 id
    have hI11 := hI9.keep f911 id id
    have F11 := f69.no f911
    have own11 := own_keep (own_keepV own8 f9 (fun y hy e => by
      have h1 := own_ge own8 y hy
      have h2 := hI7.lt
      omega)) f911 (fun _ _ => id)
    have hlt : (delM (fiM fil) e.k).length < (fiM fil).length := len_del hx
    have hdel := flat_delK (F := fun e : FiE => if e.k.1 = k.1 then [e.k] else []) (fun e : FiE => e.k) (l := fil) (x := e) (by rw [← fiM_keys]; exact iter_nodup hI8) he
    have hdel : (homeK k.1 fil).Perm ((if e.k.1 = k.1 then [e.k] else []) ++ homeK k.1 (delFi fil e.k)) := hdel
    refine LdC_blk h11 rfl ?_
    refine LdC_blk hq11 rfl ?_
    refine Br_dec (fun g1 => ?_) (fun g1 => ?_)
    · have g1 : e.k.1 = k.1 := g1
      rw [if_pos g1] at hdel
      have hal4 : al.length + 1 ≤ 5 := by have := hperm.length_eq; rw [List.length_append, hdel.length_eq, List.length_append] at this; simp at this; omega
      refine LdN_blk (vs := pairL e.k) h11 rfl rfl ?_
      refine NewC_blk (fun qq w12 hqq h12 f12 s12 => ?_)
      have h12 : Blk w12 qq t_remset_pair (pairL e.k) := h12
      have own12 : w12.ownsRow w7.heap.size t_remset_pair 2 av al.length (pairsL al) := own_keep own11 f12 (fun _ _ => id)
      have s11' := F11.size
      have s12' := f12.size
      have s9' := f911.size
      refine ApL T_ok (base := w7.heap.size) (xs := pairsL al) (news := pairL e.k) rfl rfl rfl (by decide) own12 (by have := f8.size; have := (f7.size); have := hI8.lt; omega) h12 rfl rfl rfl (by omega) (show (al.length + 1) * 16 ≤ _ by omega) (fun v' w13 own13 f13 loc => ?_)
      have hne13 : ∀ y, av.ownBlock = some y → w7.heap.size ≤ y := fun y e => own_ge own12 y e
      refine ⟨_, _, (by rw [hm]; exact hlt), ?_, v', rfl, (F11.no f12).new f13 (fun _ _ e => e) (fun y e => by have := hne13 y e; omega), ?_, ?_, delM (fiM fil) e.k, some (e.k, .pointer (some ⟨e.f, 0, none⟩)), al ++ [e.k], delFi fil e.k, ?_, ?_, (del_fiM fil e.k).symm, List.filter_sublist.trans hsub, ?_, rfl⟩
      · exact ⟨rfl, rfl, rfl, rfl, trivial⟩
      · exact (hp11.keep f12 id).keep f13 (fun e => by have := hne13 p e; omega)
      · exact (hq11.keep f12 id).keep f13 (fun e => by have := hne13 q e; omega)
      · exact (hI11.keep f12 id id).keep f13 (fun e => by have := hne13 m2 e; omega) (fun e => by have := hne13 it e; omega)
      · rw [List.length_append, pairsL_app]; exact own13
      · rw [List.append_assoc]; exact (hdel.symm.append_left al).trans hperm
    · have g1 : ¬ e.k.1 = k.1 := g1
      rw [if_neg g1, List.nil_append] at hdel
      refine ⟨_, _, (by rw [hm]; exact hlt), ?_, av, rfl, F11, hp11, hq11, delM (fiM fil) e.k, some (e.k, .pointer (some ⟨e.f, 0, none⟩)), al, delFi fil e.k, hI11, own11, (del_fiM fil e.k).symm, List.filter_sublist.trans hsub, (hdel.symm.append_left al).trans hperm, rfl⟩
      exact ⟨rfl, rfl, rfl, rfl, trivial⟩
end Go.Proofs.YtdhbpklmkibmbaaGreat
/- Layer 11 (remset): Add in every case. -/
namespace Go.Proofs.YtdhbpklmkibmbaaGreat
open Go.Vc

theorem Add_full {b m1 m2 m3 : Nat} {n per : Int} {sp : List SpE} {fi : List FiE} {co : List (Int × Int)} (hm c : Int) (l : List Int) (w : World) (h : SetsG w b m1 m2 m3 n per sp fi co) (hp : 1 ≤ per) (hn : 1 ≤ n) (hnp : n * per ≤ 4194304) (hr : 0 ≤ hm ∧ hm < n ∧ 0 ≤ c ∧ c < n * per) (hne : hm ≠ c / per)
    (hco : getM (coM co) (hm, c / per) = none) (hfi : getM (fiM fi) (hm, c / per) = none) (hl : (spGet sp (hm, c / per) = none ∧ l = []) ∨ ∃ o, spGet sp (hm, c / per) = some o ∧ o.l = l) (hc : c ∉ l) (h4 : 4 ≤ l.length) (h5 : l.length ≤ 900) (hpos : ∀ x ∈ l, 0 ≤ x) (hi : idxM (fiM fi) (hm, c / per) = none) (hn6 : n ≤ 65536) (hfive : (homeK hm fi).length ≤ 4) (hsrc : ∀ e ∈ fi, 0 ≤ e.k.2 ∧ e.k.2 ≤ 65536) (hfc : ∀ e ∈ fi, e.k ∉ co) (hkc : (hm, c / per) ∉ co) :
    CallC Pr f_remset_Sets_Add [.pointer (some ⟨b, 0, none⟩), .int .i64 hm, .int .i64 c] w (fun v w' => v = .tuple #[.bool true, .int .i64 0] ∧ (∃ f r fi1, fi1 = fi ++ [⟨(hm, c / per), f, r, setOf per (l ++ [c])⟩] ∧ w.heap.size ≤ f ∧ w.heap.size ≤ r ∧
        (((homeK hm fi1).length ≤ 4 ∧ SetsG w' b m1 m2 m3 n per (delSp sp (hm, c / per)) fi1 co) ∨ (4 < (homeK hm fi1).length ∧ ∃ x L, (x :: L).Perm (homeK hm fi1) ∧ (x :: L).Pairwise (fun a b => a.2 ≤ b.2) ∧ SetsG w' b m1 m2 m3 n per (delSp sp (hm, c / per)) (delFi fi1 (maxP (szF per fi1) x L)) (co ++ [maxP (szF per fi1) x L])))) ∧
      Fr (fun x => x = m1 ∨ x = m2 ∨ x = m3 ∨ ∃ o, spGet sp (hm, c / per) = some o ∧ x = o.g) w w') := by
  refine call_sound T_ok fun_remset_Sets_Add rfl (by kernel_rfl) rfl (Kp ?_)
  refine CallC_intro (rkey_spec hm c w h.tab hp hn hnp) (fun v w1 ⟨hv, f1⟩ => ?_)
  have hv : v = .tuple #[pairV (hm, c / per), .int .i64 0] := by
    rcases hv with ⟨_, _, _, _, hv⟩ | ⟨hn', _⟩
    · exact hv
    · exact absurd hr hn'
  subst hv
  refine NewC_blk (fun p w2 hp2 h2 f2 s2 => ?_)
  refine StN_blk h2 rfl (Nat.le_of_ble_eq_true rfl) (fun w3 h3 f3 s3 => ?_)
  have h3 : Blk w3 p t_remset_pair (pairL (hm, c / per)) := h3
  have f13 : Fr No w1 w3 := f2.new f3 (fun _ _ e => e) (fun k e => by omega)
  have F3 := f1.no f13
  have H3 := h.keep F3 (fun _ _ => id) (fun _ _ => id)
  refine LdC_blk h3 rfl ?_
  refine LdC_blk h3 rfl ?_
  refine Br_df hne ?_
  obtain ⟨k, hk⟩ : ∃ k, k = (hm, c / per) := ⟨_, rfl⟩
  have hks : 0 ≤ k.2 ∧ k.2 ≤ 65536 := by
    rw [hk]
    have := Int.ediv_nonneg hr.2.2.1 (show 0 ≤ per by omega)
    have : c / per < n := Int.ediv_lt_of_lt_mul (by omega) hr.2.2.2
    show 0 ≤ c / per ∧ c / per ≤ 65536
    omega
  rw [← hk] at h3 hco hfi hl hi hkc ⊢
  refine AnyC_plan T_ok mixed (planO [0,1,2,3,4,1005,6]) (Old w3) (by kernel_rfl) (by kernel_rfl) (fun _ _ => rfl) (Kp ?_)
  refine LdS_blk H3.tab rfl ?_
  refine LdSN_blk (vs := pairL k) h3 rfl rfl ?_
  refine ⟨?_, trivial⟩
  refine LookN T_ok (kv := pairV) rfl keyP zv_bool (H3.map3.keep (Fr.drew w3) id) k (v := .bool false) (by rw [hco]; rfl) ?_
  refine Sd_intro (fun _ _ => rfl) ?_
  have H4 := H3.keep (Fr.drew w3) (fun _ _ => id) (fun _ _ => id)
  have h4' := h3.keep (Fr.drew w3) id
  refine AnyC_plan T_ok mixed (planO [0,1,2,3,4,1005,6]) (Old w3.drew) (by kernel_rfl) (by kernel_rfl) (fun _ _ => rfl) (Kp ?_)
  refine LdS_blk H4.tab rfl ?_
  refine LdSN_blk (vs := pairL k) h4' rfl rfl ?_
  refine ⟨?_, trivial⟩
  refine LookN T_ok (kv := pairV) rfl keyP zv_p_bits_Set (H4.map2.keep (Fr.drew w3.drew) id) k (v := .pointer none) (by rw [hfi]; rfl) ?_
  refine Sd_intro (fun _ _ => rfl) ?_
  have H5 := H4.keep (Fr.drew w3.drew) (fun _ _ => id) (fun _ _ => id)
  have h5' := h4'.keep (Fr.drew w3.drew) id
  obtain ⟨a, cp, hv, hown, hblk⟩ := sp_row H5 k hl
  refine AnyC_plan T_ok mixed (planO [0,1,2,3,4,1005,6]) (Old w3.drew.drew) (by kernel_rfl) (by kernel_rfl) (fun _ _ => rfl) (Kp ?_)
  refine LdS_blk H5.tab rfl ?_
  refine LdSN_blk (vs := pairL k) h5' rfl rfl ?_
  refine ⟨?_, trivial⟩
  refine LookN T_ok (kv := pairV) rfl keyP zv_s_int (H5.map1.keep (Fr.drew w3.drew.drew) id) k hv ?_
  refine Sd_intro (fun _ _ => rfl) ?_
  have f35 : Fr No w3 w3.drew.drew.drew := ((Fr.drew w3).no (Fr.drew w3.drew)).no (Fr.drew w3.drew.drew)
  have s35 : w3.drew.drew.drew.heap.size = w3.heap.size := rfl
  generalize w3.drew.drew.drew = w6 at f35 s35 ⊢
  have H6 := H3.keep f35 (fun _ _ => id) (fun _ _ => id)
  have h6 := h3.keep f35 id
  have F6 := F3.no f35
  have hown6 : Own w6 0 (.slice a l.length cp) l := by
    obtain ⟨a2, cp2, hv2, ho2, _⟩ := sp_row H6 k hl
    rw [hv] at hv2
    injection hv2 with e1 _ e2
    rw [e1, e2]; exact ho2
  refine CallC_intro (Contains_spec (.slice a l.length cp) l c w6 hown6.ints (by omega)) (fun v w7 ⟨hv7, f7⟩ => ?_)
  subst hv7
  refine Br_df hc ?_
  refine Br_df (show ¬ (l.length : Int) < 4 by omega) ?_
  have H7 := H6.keep f7 (fun _ _ => id) (fun _ _ => id)
  have h7 := h6.keep f7 id
  have F7 := F6.no f7
  have pb : p ∉ restB b m1 m2 m3 fi ∧ ∀ e ∈ sp, p ≠ e.g := by
    have s1 := f1.size
    refine ⟨fun hm => ?_, fun e he hp => ?_⟩
    · have := h.rest_lt p hm; omega
    · have := spV_lt (h.rows e he); omega
  refine AnyC_plan T_ok mixed (planO [0,1,2,3,1004,1005,1006]) (fun w' => Blk w' p t_remset_pair (pairL k)) (by kernel_rfl) (by kernel_rfl) (h7.keep (Fr.drew w7) id) (Kp ?_)
  refine LdSN_of (vs := pairL k) (fun w' hw => hw) rfl rfl ?_
  refine ⟨?_, trivial⟩
  refine NewC_blk (fun x w8 hx h8 f8 s8 => ?_)
  have h8 : Blk w8 x t_int [.int .i64 c] := h8
  have f78 : Fr No w7 w8 := (Fr.drew w7).no f8
  have hp8 := h7.keep f78 id
  refine Sd_intro hp8 ?_
  refine ⟨?_, trivial⟩
  have H8 := H7.keep f78 (fun _ _ => id) (fun _ _ => id)
  have own8 : w8.ownsRow 0 t_int 1 (.slice a l.length cp) l.length (ints l) := (hown6.keep f7 (fun _ _ => id)).keep f78 (fun _ _ => id)
  refine ApL T_ok (base := 0) (xs := ints l) (news := [.int .i64 c]) rfl rfl rfl (by decide) own8 (Nat.zero_le _) h8 rfl rfl rfl (by omega) (show (l.length + 1) * 8 ≤ _ by omega) (fun v' w9 own9 f9 loc => ?_)
  have own9 : Own w9 0 v' (l ++ [c]) := by
    unfold Own
    rw [ints_append, List.length_append]; exact own9
  have hF9 : ∀ y, (Value.slice a l.length cp).ownBlock = some y → ∃ o, spGet sp k = some o ∧ y = o.g := fun y e => (hblk y).1 e
  have nb9 : ∀ y ∈ restB b m1 m2 m3 fi, ¬ (Value.slice a l.length cp).ownBlock = some y := fun y hy e => by
    obtain ⟨o, ho, ey⟩ := hF9 y e
    exact h.dj o (spGet_some ho).1 (by rw [← ey]; exact hy)
  have hp9 := hp8.keep f9 (fun e => by
    obtain ⟨o, ho, ey⟩ := hF9 p e
    exact pb.2 o (spGet_some ho).1 ey)
  refine Sd_intro hp9 ?_
  refine ⟨?_, trivial⟩
  have F8 : Fr No w w8 := F7.no f78
  have F9 : Fr (fun x => ∃ o, spGet sp k = some o ∧ x = o.g) w w9 := F8.noL (f9.weak (fun y _ e => hF9 y e))
  have k1 : k.1 = hm := by rw [hk]
  rw [← k1] at hfive
  have hper : per ≤ 4194304 := by have := Int.mul_le_mul_of_nonneg_right hn (show (0 : Int) ≤ per by omega); omega
  refine CallC_intro (refine_any k v' (l ++ [c]) w w9 h F9 (H8.map1.keep f9 (nb9 m1 (by simp [restB]))) own9 (fun y e e2 => ?_) (fun y hy => ?_) (by rw [List.length_append]; show l.length + 1 ≤ 1000; omega) hp hper hi hfive hsrc hks hfc hkc) (fun v w10 ⟨_, hex, f10, g10⟩ => ?_)
  · rcases loc with e3 | e3
    · exact nb9 m1 (by simp [restB]) (by rw [← e3, e, e2])
    · rw [e3] at e
      injection e with e
      have := H8.map1.lt
      omega
  · rcases List.mem_append.1 hy with h | h
    · exact hpos y h
    · have : y = c := by simpa using h
      omega
  have hp10 : Blk w10 p t_remset_pair (pairL k) := hp9.keep g10 (fun e => by
    rcases e with e | e | e
    · exact pb.1 (by rw [e]; simp [restB])
    · exact pb.1 (by rw [e]; simp [restB])
    · exact pb.1 (by rw [e]; simp [restB]))
  refine Sd_intro hp10 ?_
  rw [k1] at hex
  exact ⟨rfl, hex, f10⟩
theorem Add_co {b m1 m2 m3 : Nat} {n per : Int} {sp : List SpE} {fi : List FiE} {co : List (Int × Int)} (hm c : Int) (w : World) (h : SetsG w b m1 m2 m3 n per sp fi co) (hp : 1 ≤ per) (hn : 1 ≤ n) (hnp : n * per ≤ 4194304) (hr : 0 ≤ hm ∧ hm < n ∧ 0 ≤ c ∧ c < n * per) (hne : hm ≠ c / per)
    (hco : (hm, c / per) ∈ co) :
    CallC Pr f_remset_Sets_Add [.pointer (some ⟨b, 0, none⟩), .int .i64 hm, .int .i64 c] w (fun v w' => v = .tuple #[.bool false, .int .i64 0] ∧ Fr No w w') := by
  refine call_sound T_ok fun_remset_Sets_Add rfl (by kernel_rfl) rfl (Kp ?_)
  refine CallC_intro (rkey_spec hm c w h.tab hp hn hnp) (fun v w1 ⟨hv, f1⟩ => ?_)
  have hv : v = .tuple #[pairV (hm, c / per), .int .i64 0] := by
    rcases hv with ⟨_, _, _, _, hv⟩ | ⟨hn', _⟩
    · exact hv
    · exact absurd hr hn'
  subst hv
  refine NewC_blk (fun p w2 hp2 h2 f2 s2 => ?_)
  refine StN_blk h2 rfl (Nat.le_of_ble_eq_true rfl) (fun w3 h3 f3 s3 => ?_)
  have h3 : Blk w3 p t_remset_pair (pairL (hm, c / per)) := h3
  have f13 : Fr No w1 w3 := f2.new f3 (fun _ _ e => e) (fun k e => by omega)
  have F3 := f1.no f13
  have H3 := h.keep F3 (fun _ _ => id) (fun _ _ => id)
  refine LdC_blk h3 rfl ?_
  refine LdC_blk h3 rfl ?_
  refine Br_df hne ?_
  obtain ⟨k, hk⟩ : ∃ k, k = (hm, c / per) := ⟨_, rfl⟩
  rw [← hk] at h3 hco
  have hg : getM (coM co) k = some (.bool true) := (getM_some h.map3.nodup).2 (List.mem_map.2 ⟨k, hco, rfl⟩)
  refine AnyC_plan T_ok mixed (planO [0,1,2,3,4,1005,6]) (Old w3) (by kernel_rfl) (by kernel_rfl) (fun _ _ => rfl) (Kp ?_)
  refine LdS_blk H3.tab rfl ?_
  refine LdSN_blk (vs := pairL k) h3 rfl rfl ?_
  refine ⟨?_, trivial⟩
  refine LookN T_ok (kv := pairV) rfl keyP zv_bool (H3.map3.keep (Fr.drew w3) id) k (v := .bool true) (by rw [hg]; rfl) ?_
  refine Sd_intro (fun _ _ => rfl) ?_
  exact ⟨rfl, F3.no (Fr.drew w3)⟩
def updF (fi : List FiE) (k : Int × Int) (j : Nat) : List FiE := fi.map fun e => if e.k = k then { e with S := bput e.S j } else e
theorem updF_fiM (fi : List FiE) (k : Int × Int) (j : Nat) : fiM (updF fi k j) = fiM fi := by
  unfold fiM updF
  rw [List.map_map]
  refine List.map_congr_left fun e _ => ?_
  simp only [Function.comp]
  split <;> rfl
theorem updF_rest (b m1 m2 m3 : Nat) (fi : List FiE) (k : Int × Int) (j : Nat) : restB b m1 m2 m3 (updF fi k j) = restB b m1 m2 m3 fi := by
  unfold restB updF
  rw [List.flatMap_map]
  congr 4
  congr 1
  funext e
  split <;> rfl
theorem flat_apart {y e : FiE} : ∀ fi : List FiE, (fi.flatMap fun e => [e.f, e.r]).Nodup → y ∈ fi → e ∈ fi → y ≠ e → y.f ≠ e.r ∧ y.r ≠ e.r := by
  intro fi
  induction fi with
  | nil => intro _ h; cases h
  | cons z fi ih =>
    intro nd hy he hne
    have nd : (z.f :: z.r :: fi.flatMap fun e => [e.f, e.r]).Nodup := nd
    simp only [List.nodup_cons, List.mem_cons, not_or] at nd
    obtain ⟨⟨n1, n2⟩, n3, n4⟩ := nd
    have inm : ∀ x ∈ fi, x.f ∈ (fi.flatMap fun e => [e.f, e.r]) ∧ x.r ∈ (fi.flatMap fun e => [e.f, e.r]) := fun x hx => ⟨List.mem_flatMap.2 ⟨x, hx, by simp⟩, List.mem_flatMap.2 ⟨x, hx, by simp⟩⟩
    rcases List.mem_cons.1 hy with hy1 | hy1
    · rcases List.mem_cons.1 he with he1 | he1
      · exact absurd (hy1.trans he1.symm) hne
      · rw [hy1]; exact ⟨fun c => n2 (c ▸ (inm e he1).2), fun c => n3 (c ▸ (inm e he1).2)⟩
    · rcases List.mem_cons.1 he with he1 | he1
      · rw [he1]; exact ⟨fun c => n3 (c ▸ (inm y hy1).1), fun c => n3 (c ▸ (inm y hy1).2)⟩
      · exact ih n4 hy1 he1 hne
theorem SetsG.putF {w w' : World} {b m1 m2 m3 : Nat} {n per : Int} {sp : List SpE} {fi : List FiE} {co : List (Int × Int)} (h : SetsG w b m1 m2 m3 n per sp fi co) {e : FiE} {j : Nat} (he : e ∈ fi) (f : Fr (· = e.r) w w') (hS : IsBits w' e.f e.r per (bput e.S j)) :
    SetsG w' b m1 m2 m3 n per sp (updF fi e.k j) co := by
  have nd : (fi.map (·.k)).Nodup := by rw [← fiM_keys]; exact h.map2.nodup
  have hnd := h.rs
  have hx : ∀ x ∈ [b, m1, m2, m3], x ≠ e.r := by
    intro x hx e1
    have hm : e.r ∈ fi.flatMap fun e => [e.f, e.r] := List.mem_flatMap.2 ⟨e, he, by simp⟩
    unfold restB at hnd
    simp only [List.nodup_cons, List.mem_cons, not_or] at hnd
    obtain ⟨⟨n1, n2, n3, n4⟩, ⟨n5, n6, n7⟩, ⟨n8, n9⟩, n10, n11⟩ := hnd
    simp at hx
    rcases hx with rfl | rfl | rfl | rfl
    · exact n4 (e1 ▸ hm)
    · exact n7 (e1 ▸ hm)
    · exact n9 (e1 ▸ hm)
    · exact n10 (e1 ▸ hm)
  have hdif : ∀ y ∈ fi, y.k ≠ e.k → y.f ≠ e.r ∧ y.r ≠ e.r := fun y hy hk => by
    have hfl : (fi.flatMap fun e => [e.f, e.r]).Nodup := by
      unfold restB at hnd
      simp only [List.nodup_cons] at hnd
      exact hnd.2.2.2.2
    exact flat_apart fi hfl hy he (fun c => hk (by rw [c]))
  refine ⟨h.tab.keep f (hx b (by simp)), h.map1.keep f (hx m1 (by simp)), by rw [updF_fiM]; exact h.map2.keep f (hx m2 (by simp)), h.map3.keep f (hx m3 (by simp)), fun x hx => own_keepV (h.rows x hx) f (fun y hy e1 => ?_), fun y hy => ?_, h.gs, by rw [updF_rest]; exact h.rs, by rw [updF_rest]; exact h.dj⟩
  · injection hy with hy
    have hy : x.g = y := hy
    refine h.dj x hx ?_
    rw [hy, e1]
    unfold restB
    simp only [List.mem_cons, List.mem_flatMap]
    exact .inr (.inr (.inr (.inr ⟨e, he, by simp⟩)))
  · obtain ⟨z, hz, ez⟩ := List.mem_map.1 hy
    by_cases c : z.k = e.k
    · rw [if_pos c] at ez
      have : z = e := by
        obtain ⟨i, hi, ei⟩ := List.getElem_of_mem hz
        obtain ⟨q, hq, eq⟩ := List.getElem_of_mem he
        by_cases hiq : i = q
        · subst hiq; rw [← ei, eq]
        · exfalso
          have hp := List.pairwise_iff_getElem.1 nd
          rcases Nat.lt_or_gt_of_ne hiq with c1 | c1
          · exact hp i q (by simpa using hi) (by simpa using hq) c1 (by simp [ei, eq, c])
          · exact hp q i (by simpa using hq) (by simpa using hi) c1 (by simp [ei, eq, c])
      subst this
      subst ez
      exact hS
    · rw [if_neg c] at ez
      subst ez
      exact (h.sets z hz).keep f (hdif z hz c).1 (hdif z hz c).2
theorem Add_fi {b m1 m2 m3 : Nat} {n per : Int} {sp : List SpE} {fi : List FiE} {co : List (Int × Int)} (hm c : Int) (e : FiE) (w : World) (h : SetsG w b m1 m2 m3 n per sp fi co) (hp : 1 ≤ per) (hn : 1 ≤ n) (hnp : n * per ≤ 4194304) (hr : 0 ≤ hm ∧ hm < n ∧ 0 ≤ c ∧ c < n * per) (hne : hm ≠ c / per)
    (hco : getM (coM co) (hm, c / per) = none) (he : e ∈ fi) (ek : e.k = (hm, c / per)) :
    CallC Pr f_remset_Sets_Add [.pointer (some ⟨b, 0, none⟩), .int .i64 hm, .int .i64 c] w (fun v w' => v = .tuple #[.bool (!e.S (c % per).toNat), .int .i64 0] ∧ SetsG w' b m1 m2 m3 n per sp (updF fi (hm, c / per) (c % per).toNat) co ∧ Fr (· = e.r) w w') := by
  refine call_sound T_ok fun_remset_Sets_Add rfl (by kernel_rfl) rfl (Kp ?_)
  refine CallC_intro (rkey_spec hm c w h.tab hp hn hnp) (fun v w1 ⟨hv, f1⟩ => ?_)
  have hv : v = .tuple #[pairV (hm, c / per), .int .i64 0] := by
    rcases hv with ⟨_, _, _, _, hv⟩ | ⟨hn', _⟩
    · exact hv
    · exact absurd hr hn'
  subst hv
  refine NewC_blk (fun p w2 hp2 h2 f2 s2 => ?_)
  refine StN_blk h2 rfl (Nat.le_of_ble_eq_true rfl) (fun w3 h3 f3 s3 => ?_)
  have h3 : Blk w3 p t_remset_pair (pairL (hm, c / per)) := h3
  have f13 : Fr No w1 w3 := f2.new f3 (fun _ _ e => e) (fun k e => by omega)
  have F3 := f1.no f13
  have H3 := h.keep F3 (fun _ _ => id) (fun _ _ => id)
  refine LdC_blk h3 rfl ?_
  refine LdC_blk h3 rfl ?_
  refine Br_df hne ?_
  obtain ⟨k, hk⟩ : ∃ k, k = (hm, c / per) := ⟨_, rfl⟩
  rw [← hk] at h3 hco ek ⊢
  refine AnyC_plan T_ok mixed (planO [0,1,2,3,4,1005,6]) (Old w3) (by kernel_rfl) (by kernel_rfl) (fun _ _ => rfl) (Kp ?_)
  refine LdS_blk H3.tab rfl ?_
  refine LdSN_blk (vs := pairL k) h3 rfl rfl ?_
  refine ⟨?_, trivial⟩
  refine LookN T_ok (kv := pairV) rfl keyP zv_bool (H3.map3.keep (Fr.drew w3) id) k (v := .bool false) (by rw [hco]; rfl) ?_
  refine Sd_intro (fun _ _ => rfl) ?_
  have H4 := H3.keep (Fr.drew w3) (fun _ _ => id) (fun _ _ => id)
  have h4' := h3.keep (Fr.drew w3) id
  refine AnyC_plan T_ok mixed (planO [0,1,2,3,4,1005,6]) (Old w3.drew) (by kernel_rfl) (by kernel_rfl) (fun _ _ => rfl) (Kp ?_)
  refine LdS_blk H4.tab rfl ?_
  refine LdSN_blk (vs := pairL k) h4' rfl rfl ?_
  refine ⟨?_, trivial⟩
  refine LookN T_ok (kv := pairV) rfl keyP zv_p_bits_Set (H4.map2.keep (Fr.drew w3.drew) id) k (v := .pointer (some ⟨e.f, 0, none⟩)) (by rw [← ek, fi_get h.map2.nodup he]; rfl) ?_
  refine Sd_intro (fun _ _ => rfl) ?_
  have H5 := H4.keep (Fr.drew w3.drew) (fun _ _ => id) (fun _ _ => id)
  have h5' := h4'.keep (Fr.drew w3.drew) id
  have F5 := (F3.no (Fr.drew w3)).no (Fr.drew w3.drew)
  refine LdC_blk H5.tab rfl ?_
  refine Sd_intro (by omega) ?_
  have em : c.tmod per = c % per := Int.tmod_eq_emod_of_nonneg hr.2.2.1
  have e0 := Int.emod_nonneg c (show per ≠ 0 by omega)
  have e1 := Int.emod_lt_of_pos c (show 0 < per by omega)
  refine CallC_intro (Put_spec (c.tmod per) w3.drew.drew (H5.sets e he) (by omega) (by omega)) (fun v w6 ⟨hv, hS6, f6⟩ => ?_)
  subst hv
  rw [em] at hS6
  refine ⟨by rw [em]; rfl, by rw [← ek]; exact H5.putF he f6 hS6, ?_⟩
  exact F5.trans f6 (fun _ _ e => e.elim) (fun _ _ e => e)
theorem Add_in {b m1 m2 m3 : Nat} {n per : Int} {sp : List SpE} {fi : List FiE} {co : List (Int × Int)} (hm c : Int) (l : List Int) (w : World) (h : SetsG w b m1 m2 m3 n per sp fi co) (hp : 1 ≤ per) (hn : 1 ≤ n) (hnp : n * per ≤ 4194304) (hr : 0 ≤ hm ∧ hm < n ∧ 0 ≤ c ∧ c < n * per) (hne : hm ≠ c / per)
    (hco : getM (coM co) (hm, c / per) = none) (hfi : getM (fiM fi) (hm, c / per) = none) (hl : (spGet sp (hm, c / per) = none ∧ l = []) ∨ ∃ o, spGet sp (hm, c / per) = some o ∧ o.l = l) (hc : c ∈ l) (h4 : l.length ≤ 900) :
    CallC Pr f_remset_Sets_Add [.pointer (some ⟨b, 0, none⟩), .int .i64 hm, .int .i64 c] w (fun v w' => v = .tuple #[.bool false, .int .i64 0] ∧ Fr No w w') := by
  refine call_sound T_ok fun_remset_Sets_Add rfl (by kernel_rfl) rfl (Kp ?_)
  refine CallC_intro (rkey_spec hm c w h.tab hp hn hnp) (fun v w1 ⟨hv, f1⟩ => ?_)
  have hv : v = .tuple #[pairV (hm, c / per), .int .i64 0] := by
    rcases hv with ⟨_, _, _, _, hv⟩ | ⟨hn', _⟩
    · exact hv
    · exact absurd hr hn'
  subst hv
  refine NewC_blk (fun p w2 hp2 h2 f2 s2 => ?_)
  refine StN_blk h2 rfl (Nat.le_of_ble_eq_true rfl) (fun w3 h3 f3 s3 => ?_)
  have h3 : Blk w3 p t_remset_pair (pairL (hm, c / per)) := h3
  have f13 : Fr No w1 w3 := f2.new f3 (fun _ _ e => e) (fun k e => by omega)
  have F3 := f1.no f13
  have H3 := h.keep F3 (fun _ _ => id) (fun _ _ => id)
  refine LdC_blk h3 rfl ?_
  refine LdC_blk h3 rfl ?_
  refine Br_df hne ?_
  obtain ⟨k, hk⟩ : ∃ k, k = (hm, c / per) := ⟨_, rfl⟩
  rw [← hk] at h3 hco hfi hl
  refine AnyC_plan T_ok mixed (planO [0,1,2,3,4,1005,6]) (Old w3) (by kernel_rfl) (by kernel_rfl) (fun _ _ => rfl) (Kp ?_)
  refine LdS_blk H3.tab rfl ?_
  refine LdSN_blk (vs := pairL k) h3 rfl rfl ?_
  refine ⟨?_, trivial⟩
  refine LookN T_ok (kv := pairV) rfl keyP zv_bool (H3.map3.keep (Fr.drew w3) id) k (v := .bool false) (by rw [hco]; rfl) ?_
  refine Sd_intro (fun _ _ => rfl) ?_
  have H4 := H3.keep (Fr.drew w3) (fun _ _ => id) (fun _ _ => id)
  have h4' := h3.keep (Fr.drew w3) id
  refine AnyC_plan T_ok mixed (planO [0,1,2,3,4,1005,6]) (Old w3.drew) (by kernel_rfl) (by kernel_rfl) (fun _ _ => rfl) (Kp ?_)
  refine LdS_blk H4.tab rfl ?_
  refine LdSN_blk (vs := pairL k) h4' rfl rfl ?_
  refine ⟨?_, trivial⟩
  refine LookN T_ok (kv := pairV) rfl keyP zv_p_bits_Set (H4.map2.keep (Fr.drew w3.drew) id) k (v := .pointer none) (by rw [hfi]; rfl) ?_
  refine Sd_intro (fun _ _ => rfl) ?_
  have H5 := H4.keep (Fr.drew w3.drew) (fun _ _ => id) (fun _ _ => id)
  have h5' := h4'.keep (Fr.drew w3.drew) id
  obtain ⟨a, cp, hv, hown, hblk⟩ := sp_row H5 k hl
  refine AnyC_plan T_ok mixed (planO [0,1,2,3,4,1005,6]) (Old w3.drew.drew) (by kernel_rfl) (by kernel_rfl) (fun _ _ => rfl) (Kp ?_)
  refine LdS_blk H5.tab rfl ?_
  refine LdSN_blk (vs := pairL k) h5' rfl rfl ?_
  refine ⟨?_, trivial⟩
  refine LookN T_ok (kv := pairV) rfl keyP zv_s_int (H5.map1.keep (Fr.drew w3.drew.drew) id) k hv ?_
  refine Sd_intro (fun _ _ => rfl) ?_
  have f35 : Fr No w3 w3.drew.drew.drew := ((Fr.drew w3).no (Fr.drew w3.drew)).no (Fr.drew w3.drew.drew)
  have s35 : w3.drew.drew.drew.heap.size = w3.heap.size := rfl
  generalize w3.drew.drew.drew = w6 at f35 s35 ⊢
  have H6 := H3.keep f35 (fun _ _ => id) (fun _ _ => id)
  have h6 := h3.keep f35 id
  have F6 := F3.no f35
  have hown6 : Own w6 0 (.slice a l.length cp) l := by
    obtain ⟨a2, cp2, hv2, ho2, _⟩ := sp_row H6 k hl
    rw [hv] at hv2
    injection hv2 with e1 _ e2
    rw [e1, e2]; exact ho2
  refine CallC_intro (Contains_spec (.slice a l.length cp) l c w6 hown6.ints (by omega)) (fun v w7 ⟨hv7, f7⟩ => ?_)
  subst hv7
  refine Br_dt hc ?_
  exact ⟨rfl, F6.no f7⟩
theorem Add_range {b m1 m2 m3 : Nat} {n per : Int} (hm c : Int) (w : World) (h : Blk w b t_remset_Sets (setsL n per m1 m2 m3)) (hp : 1 ≤ per) (hn : 1 ≤ n) (hnp : n * per ≤ 4194304) (hr : ¬ (0 ≤ hm ∧ hm < n ∧ 0 ≤ c ∧ c < n * per)) :
    CallC Pr f_remset_Sets_Add [.pointer (some ⟨b, 0, none⟩), .int .i64 hm, .int .i64 c] w (fun v w' => v = .tuple #[.bool false, .int .i64 2] ∧ Fr No w w') := by
  refine call_sound T_ok fun_remset_Sets_Add rfl (by kernel_rfl) rfl (Kp ?_)
  refine CallC_intro (rkey_spec hm c w h hp hn hnp) (fun v w1 ⟨hv, f1⟩ => ?_)
  have hv : v = .tuple #[pairV (0, 0), .int .i64 2] := by
    rcases hv with ⟨a1, a2, a3, a4, _⟩ | ⟨_, hv⟩
    · exact absurd ⟨a1, a2, a3, a4⟩ hr
    · exact hv
  subst hv
  refine NewC_blk (fun p w2 hp2 h2 f2 s2 => ?_)
  refine StN_blk h2 rfl (Nat.le_of_ble_eq_true rfl) (fun w3 h3 f3 s3 => ?_)
  exact ⟨rfl, f1.no (f2.new f3 (fun _ _ e => e) (fun k e => by omega))⟩
end Go.Proofs.YtdhbpklmkibmbaaGreat
/- Layer 11 (remset): what the sets say; Add. -/
namespace Go.Proofs.YtdhbpklmkibmbaaGreat
open Go.Vc

inductive Src where
  | sp (l : List Int)
  | fi (S : Nat → Bool)
  | co
abbrev Abs := Int × Int → Src
def updA (A : Abs) (k : Int × Int) (s : Src) : Abs := fun k' => if k' = k then s else A k'
def Src.isFi : Src → Bool
  | .fi _ => true
  | _ => false
def szA (per : Int) : Src → Int
  | .fi S => ((cnt (within S 0 per) per.toNat : Nat) : Int)
  | _ => 0
def rng (n : Int) : List Int := (List.range n.toNat).map fun (i : Nat) => (i : Int)
theorem rng_mem {n s : Int} : s ∈ rng n ↔ 0 ≤ s ∧ s < n := by
  unfold rng
  rw [List.mem_map]
  constructor
  · rintro ⟨i, hi, rfl⟩
    have := List.mem_range.1 hi
    omega
  · rintro ⟨h0, h1⟩
    exact ⟨s.toNat, List.mem_range.2 (by omega), by omega⟩
theorem rng_sorted (n : Int) : (rng n).Pairwise (· < ·) := by
  unfold rng
  refine List.pairwise_map.2 ?_
  exact List.pairwise_lt_range.imp fun h => by omega
def finesA (n : Int) (A : Abs) (hm : Int) : List Int := (rng n).filter fun s => (A (hm, s)).isFi
def coarsenA (n per : Int) (A : Abs) (hm : Int) : Abs := match finesA n A hm with
  | [] => A
  | x :: L => if L.length + 1 ≤ 4 then A else updA A (hm, maxP (fun s => szA per (A (hm, s))) x L) .co
def addA (n per : Int) (A : Abs) (hm c : Int) : Bool × Int × Abs :=
  if 0 ≤ hm ∧ hm < n ∧ 0 ≤ c ∧ c < n * per then
    if hm = c / per then (false, 3, A) else match A (hm, c / per) with
    | .co => (false, 0, A)
    | .fi S => (!S (c % per).toNat, 0, updA A (hm, c / per) (.fi (bput S (c % per).toNat)))
    | .sp l => if c ∈ l then (false, 0, A) else if l.length < 4 then (true, 0, updA A (hm, c / per) (.sp (l ++ [c]))) else (true, 0, coarsenA n per (updA A (hm, c / per) (.fi (setOf per (l ++ [c])))) hm)
  else (false, 2, A)
def okK (n : Int) (k : Int × Int) : Prop := 0 ≤ k.1 ∧ k.1 < n ∧ 0 ≤ k.2 ∧ k.2 < n ∧ k.1 ≠ k.2
structure GoodG (n per : Int) (A : Abs) (sp : List SpE) (fi : List FiE) (co : List (Int × Int)) : Prop where
  spk : ∀ e ∈ sp, okK n e.k ∧ A e.k = .sp e.l ∧ e.l ≠ [] ∧ e.l.length ≤ 4 ∧ e.l.Nodup ∧ ∀ c ∈ e.l, 0 ≤ c ∧ c < n * per ∧ c / per = e.k.2
  fik : ∀ e ∈ fi, okK n e.k ∧ A e.k = .fi e.S ∧ ∀ j, e.S j = true → (j : Int) < per
  cok : ∀ k ∈ co, okK n k ∧ A k = .co
  non : ∀ k, k ∉ sp.map (·.k) → k ∉ fi.map (·.k) → k ∉ co → A k = .sp []
  five : ∀ hm, (homeK hm fi).length ≤ 4
structure RCfg (n per : Int) : Prop where
  p1 : 1 ≤ per
  n1 : 1 ≤ n
  n6 : n ≤ 65536
  np : n * per ≤ 4194304
def RS (w : World) (b : Nat) (B : Nat → Prop) (n per : Int) (A : Abs) : Prop :=
  ∃ m1 m2 m3 sp fi co, SetsG w b m1 m2 m3 n per sp fi co ∧ GoodG n per A sp fi co ∧ (∀ x ∈ restB b m1 m2 m3 fi, B x) ∧ ∀ e ∈ sp, B e.g
theorem RS.keep {w w' : World} {b : Nat} {B : Nat → Prop} {n per : Int} {A : Abs} {F : Nat → Prop} (h : RS w b B n per A) (f : Fr F w w') (hF : ∀ x, B x → ¬ F x) : RS w' b B n per A := by
  obtain ⟨m1, m2, m3, sp, fi, co, h1, h2, h3, h4⟩ := h
  exact ⟨m1, m2, m3, sp, fi, co, h1.keep f (fun x hx => hF x (h3 x hx)) (fun e he => hF _ (h4 e he)), h2, h3, h4⟩
theorem spGet_of {sp : List SpE} {e : SpE} (nd : (sp.map (·.k)).Nodup) (he : e ∈ sp) : spGet sp e.k = some e := by
  have hg : getM (spM sp) e.k = some (spV e) := (getM_some (by rw [spM_keys]; exact nd)).2 (List.mem_map.2 ⟨e, he, rfl⟩)
  cases h : spGet sp e.k with
  | none => rw [(spGet_none h).1] at hg; cases hg
  | some o =>
    obtain ⟨ho, hk, _⟩ := spGet_some h
    obtain ⟨i, hi, ei⟩ := List.getElem_of_mem ho
    obtain ⟨q, hq, eq⟩ := List.getElem_of_mem he
    by_cases c : i = q
    · subst c; rw [← ei, eq]
    · exfalso
      have hp := List.pairwise_iff_getElem.1 nd
      rcases Nat.lt_or_gt_of_ne c with c | c
      · exact hp i q (by simpa using hi) (by simpa using hq) c (by simp [ei, eq, hk])
      · exact hp q i (by simpa using hq) (by simpa using hi) c (by simp [ei, eq, hk])
theorem idx_not {κ : Type} [DecidableEq κ] {m : List (κ × Value)} {k : κ} (h : k ∉ m.map (·.1)) : idxM m k = none := by
  cases hh : idxM m k with
  | none => rfl
  | some i =>
    obtain ⟨v, h1, h2⟩ := idx_some hh
    rw [getM_none.2 h] at h2; cases h2
theorem co_not {co : List (Int × Int)} {k : Int × Int} (h : k ∉ co) : getM (coM co) k = none := getM_none.2 (by rw [coM_keys]; exact h)
theorem fi_not {fi : List FiE} {k : Int × Int} (h : k ∉ fi.map (·.k)) : getM (fiM fi) k = none := getM_none.2 (by rw [fiM_keys]; exact h)
/-- What a source is, in the sets' own words. -/
theorem GoodG.src {n per : Int} {A : Abs} {sp : List SpE} {fi : List FiE} {co : List (Int × Int)} (h : GoodG n per A sp fi co) (k : Int × Int) :
    (k ∈ co ∧ A k = .co) ∨ (∃ e ∈ fi, e.k = k ∧ k ∉ co ∧ A k = .fi e.S) ∨ ((∃ e ∈ sp, e.k = k ∧ A k = .sp e.l) ∧ k ∉ co ∧ k ∉ fi.map (·.k)) ∨ (k ∉ sp.map (·.k) ∧ k ∉ co ∧ k ∉ fi.map (·.k) ∧ A k = .sp []) := by
  by_cases h1 : k ∈ co
  · exact .inl ⟨h1, (h.cok k h1).2⟩
  by_cases h2 : k ∈ fi.map (·.k)
  · obtain ⟨e, he, rfl⟩ := List.mem_map.1 h2
    exact .inr (.inl ⟨e, he, rfl, h1, (h.fik e he).2.1⟩)
  by_cases h3 : k ∈ sp.map (·.k)
  · obtain ⟨e, he, rfl⟩ := List.mem_map.1 h3
    exact .inr (.inr (.inl ⟨⟨e, he, rfl, (h.spk e he).2.1⟩, h1, h2⟩))
  · exact .inr (.inr (.inr ⟨h3, h1, h2, h.non k h3 h2 h1⟩))
theorem GoodG.fc {n per : Int} {A : Abs} {sp : List SpE} {fi : List FiE} {co : List (Int × Int)} (h : GoodG n per A sp fi co) : ∀ e ∈ fi, e.k ∉ co := fun e he hc => by
  have h1 := (h.fik e he).2.1
  rw [(h.cok _ hc).2] at h1; cases h1
theorem GoodG.fs {n per : Int} {A : Abs} {sp : List SpE} {fi : List FiE} {co : List (Int × Int)} (h : GoodG n per A sp fi co) : ∀ e ∈ fi, e.k ∉ sp.map (·.k) := fun e he hc => by
  have h1 := (h.fik e he).2.1
  obtain ⟨x, hx, ex⟩ := List.mem_map.1 hc
  rw [← ex, (h.spk _ hx).2.1] at h1; cases h1
theorem GoodG.cs {n per : Int} {A : Abs} {sp : List SpE} {fi : List FiE} {co : List (Int × Int)} (h : GoodG n per A sp fi co) : ∀ k ∈ co, k ∉ sp.map (·.k) := fun k hk hc => by
  have h1 := (h.cok k hk).2
  obtain ⟨x, hx, ex⟩ := List.mem_map.1 hc
  rw [← ex, (h.spk _ hx).2.1] at h1; cases h1
theorem putSp_ne {sp : List SpE} {e x : SpE} (nd : (sp.map (·.k)).Nodup) (h : x ∈ putSp sp e) : x = e ∨ (x ∈ sp ∧ x.k ≠ e.k) := by
  have hk : ((putSp sp e).map (·.k)).Nodup := by
    rw [← spM_keys, put_spM]
    unfold putM
    cases hi : idxM (spM sp) e.k with
    | none =>
      simp only
      rw [List.map_append]
      refine List.nodup_append.2 ⟨by rw [spM_keys]; exact nd, by simp, fun a ha b' hb' e' => ?_⟩
      simp at hb'
      exact (idx_none hi).2 (by rw [← hb', ← e']; exact ha)
    | some i =>
      simp only
      rw [List.map_set]
      obtain ⟨v, h1, _⟩ := idx_some hi
      have : ((spM sp).map (·.1)).set i e.k = (spM sp).map (·.1) := by
        apply List.ext_getElem?
        intro j
        rw [List.getElem?_set]
        by_cases hj : i = j
        · subst hj
          rw [if_pos rfl, List.getElem?_map, h1]
          split
          · rfl
          · rename_i hh; exact absurd (by simpa using (List.getElem?_eq_some_iff.1 h1).1) hh
        · rw [if_neg hj]
      rw [this, spM_keys]; exact nd
  have he : e ∈ putSp sp e := by
    unfold putSp
    cases hi : idxM (spM sp) e.k with
    | none => simp
    | some i =>
      obtain ⟨v, h1, _⟩ := idx_some hi
      have : i < sp.length := by have := (List.getElem?_eq_some_iff.1 h1).1; simpa [spM] using this
      exact List.mem_set this e
  rcases mem_putSp h with h1 | h1
  · exact .inl h1
  · by_cases c : x = e
    · exact .inl c
    · right
      refine ⟨h1, fun ek => c ?_⟩
      obtain ⟨i, hi, ei⟩ := List.getElem_of_mem h
      obtain ⟨q, hq, eq⟩ := List.getElem_of_mem he
      by_cases c : i = q
      · subst c; rw [← ei, eq]
      · exfalso
        have hp := List.pairwise_iff_getElem.1 hk
        rcases Nat.lt_or_gt_of_ne c with c | c
        · exact hp i q (by simpa using hi) (by simpa using hq) c (by simp [ei, eq, ek])
        · exact hp q i (by simpa using hq) (by simpa using hi) c (by simp [ei, eq, ek])
theorem putSp_key {sp : List SpE} {e : SpE} {k : Int × Int} (h : k ∉ (putSp sp e).map (·.k)) : k ≠ e.k ∧ k ∉ sp.map (·.k) := by
  have hh : k ∉ (spM (putSp sp e)).map (·.1) := by rw [spM_keys]; exact h
  rw [put_spM] at hh
  unfold putM at hh
  cases hi : idxM (spM sp) e.k with
  | none =>
    rw [hi] at hh
    simp only [List.map_append, List.mem_append, not_or, spM_keys] at hh
    exact ⟨fun c => hh.2 (by simp [c]), hh.1⟩
  | some i =>
    rw [hi] at hh
    simp only [List.map_set] at hh
    obtain ⟨v, h1, _⟩ := idx_some hi
    have : ((spM sp).map (·.1)).set i e.k = (spM sp).map (·.1) := by
      apply List.ext_getElem?
      intro j
      rw [List.getElem?_set]
      by_cases hj : i = j
      · subst hj
        rw [if_pos rfl, List.getElem?_map, h1]
        split
        · rfl
        · rename_i hh; exact absurd (by simpa using (List.getElem?_eq_some_iff.1 h1).1) hh
      · rw [if_neg hj]
    rw [this] at hh
    exact ⟨fun c => hh (List.mem_map.2 ⟨_, List.mem_of_getElem? h1, c.symm⟩), by rw [← spM_keys]; exact hh⟩
theorem homeK_eq (hm : Int) (fi : List FiE) : homeK hm fi = (fi.map (·.k)).filter fun k => decide (k.1 = hm) := by
  induction fi with
  | nil => rfl
  | cons e fi ih =>
    unfold homeK at ih ⊢
    rw [List.flatMap_cons, List.map_cons, List.filter_cons, ih]
    by_cases c : e.k.1 = hm
    · rw [if_pos c, if_pos (by simp [c])]; rfl
    · rw [if_neg c, if_neg (by simp [c])]; rfl
theorem updA_same (A : Abs) (k : Int × Int) (s : Src) : updA A k s k = s := if_pos rfl
theorem updA_ne {A : Abs} {k k' : Int × Int} {s : Src} (h : k' ≠ k) : updA A k s k' = A k' := if_neg h
theorem isFi_iff {n per : Int} {A : Abs} {sp : List SpE} {fi : List FiE} {co : List (Int × Int)} (h : GoodG n per A sp fi co) (k : Int × Int) : (A k).isFi = true ↔ k ∈ fi.map (·.k) := by
  rcases h.src k with ⟨hc, e⟩ | ⟨x, hx, rfl, _, e⟩ | ⟨⟨x, hx, rfl, e⟩, _, hf⟩ | ⟨_, _, hf, e⟩
  · rw [e]
    refine ⟨fun h => (by cases h), fun hk => ?_⟩
    obtain ⟨x, hx, rfl⟩ := List.mem_map.1 hk
    exact absurd hc (h.fc x hx)
  · rw [e]; exact ⟨fun _ => List.mem_map.2 ⟨x, hx, rfl⟩, fun _ => rfl⟩
  · rw [e]; exact ⟨fun h => (by cases h), fun hk => absurd hk hf⟩
  · rw [e]; exact ⟨fun h => (by cases h), fun hk => absurd hk hf⟩
/-- The fine sources of a home, in their order. -/
theorem fines_perm {n : Int} {A : Abs} {fi : List FiE} (nd : (fi.map (·.k)).Nodup) (hk : ∀ e ∈ fi, okK n e.k) (hA : ∀ k, (A k).isFi = true ↔ k ∈ fi.map (·.k)) (hm : Int) : ((homeK hm fi).map (·.2)).Perm (finesA n A hm) := by
  refine (List.perm_ext_iff_of_nodup ?_ ?_).2 fun s => ?_
  · rw [homeK_eq]
    refine List.pairwise_map.2 ?_
    refine ((nd.filter _).imp_of_mem fun {a b} ha hb hab e => hab ?_)
    have h1 := (List.mem_filter.1 ha).2
    have h2 := (List.mem_filter.1 hb).2
    simp at h1 h2
    exact Prod.ext (h1.trans h2.symm) e
  · exact ((rng_sorted n).imp fun h => by omega).filter _
  · unfold finesA
    rw [List.mem_filter, rng_mem, hA, homeK_eq, List.mem_map]
    constructor
    · rintro ⟨k, hk1, rfl⟩
      obtain ⟨h1, h2⟩ := List.mem_filter.1 hk1
      have h2 : k.1 = hm := by simpa using h2
      obtain ⟨e, he, rfl⟩ := List.mem_map.1 h1
      obtain ⟨_, _, a, b, _⟩ := hk e he
      exact ⟨⟨a, b⟩, by rw [← h2]; exact h1⟩
    · rintro ⟨_, h1⟩
      exact ⟨(hm, s), List.mem_filter.2 ⟨h1, by simp⟩, rfl⟩
theorem maxP_map {hm : Int} {sz : Int × Int → Int} {sz' : Int → Int} : ∀ (L : List (Int × Int)) (x : Int × Int), (∀ y ∈ x :: L, y.1 = hm ∧ sz y = sz' y.2) → maxP sz x L = (hm, maxP sz' x.2 (L.map (·.2))) := by
  intro L
  induction L with
  | nil =>
    intro x h
    show x = (hm, x.2)
    exact Prod.ext (h x (by simp)).1 rfl
  | cons y L ih =>
    intro x h
    have hx := (h x (by simp)).2
    have hy := (h y (by simp)).2
    show maxP sz (if sz y - sz x > 0 then y else x) L = (hm, maxP sz' (if sz' y.2 - sz' x.2 > 0 then y.2 else x.2) (L.map (·.2)))
    rw [hx, hy]
    by_cases c : sz' y.2 - sz' x.2 > 0
    · rw [if_pos c, if_pos c]
      exact ih y (fun z hz => h z (by simp at hz ⊢; rcases hz with rfl | hz <;> simp [*]))
    · rw [if_neg c, if_neg c]
      exact ih x (fun z hz => h z (by simp at hz ⊢; rcases hz with rfl | hz <;> simp [*]))
end Go.Proofs.YtdhbpklmkibmbaaGreat
/- Layer 11 (remset): Add, in the sets' own words. -/
namespace Go.Proofs.YtdhbpklmkibmbaaGreat
open Go.Vc

theorem good_put {n per : Int} {A : Abs} {sp : List SpE} {fi : List FiE} {co : List (Int × Int)} (h : GoodG n per A sp fi co) (nd : (sp.map (·.k)).Nodup) (e : SpE) (hk : okK n e.k) (hc : e.k ∉ co) (hf : e.k ∉ fi.map (·.k)) (h1 : e.l ≠ []) (h2 : e.l.length ≤ 4) (h3 : e.l.Nodup) (h4 : ∀ c ∈ e.l, 0 ≤ c ∧ c < n * per ∧ c / per = e.k.2) :
    GoodG n per (updA A e.k (.sp e.l)) (putSp sp e) fi co where
  spk x hx := by
    rcases putSp_ne nd hx with rfl | ⟨hx, hne⟩
    · exact ⟨hk, updA_same _ _ _, h1, h2, h3, h4⟩
    · obtain ⟨a, b, c⟩ := h.spk x hx
      exact ⟨a, by rw [updA_ne hne]; exact b, c⟩
  fik x hx := by
    obtain ⟨a, b, c⟩ := h.fik x hx
    exact ⟨a, by rw [updA_ne (fun e => hf (List.mem_map.2 ⟨x, hx, e⟩))]; exact b, c⟩
  cok k hk := by
    obtain ⟨a, b⟩ := h.cok k hk
    have hne : k ≠ e.k := fun e' => hc (by rw [← e']; exact hk)
    exact ⟨a, by rw [updA_ne hne]; exact b⟩
  non k a b c := by
    obtain ⟨a1, a2⟩ := putSp_key a
    rw [updA_ne a1]
    exact h.non k a2 b c
  five := h.five
theorem updF_keys (fi : List FiE) (k : Int × Int) (j : Nat) : (updF fi k j).map (·.k) = fi.map (·.k) := by
  rw [← fiM_keys, updF_fiM, fiM_keys]
theorem good_updF {n per : Int} {A : Abs} {sp : List SpE} {fi : List FiE} {co : List (Int × Int)} (h : GoodG n per A sp fi co) (nd : (fi.map (·.k)).Nodup) {e : FiE} (he : e ∈ fi) (j : Nat) (hj : (j : Int) < per) : GoodG n per (updA A e.k (.fi (bput e.S j))) sp (updF fi e.k j) co where
  spk x hx := by
    obtain ⟨a, b, c⟩ := h.spk x hx
    exact ⟨a, by rw [updA_ne (fun e' => h.fs e he (List.mem_map.2 ⟨x, hx, e'⟩))]; exact b, c⟩
  fik x hx := by
    obtain ⟨y, hy, ey⟩ := List.mem_map.1 hx
    obtain ⟨a, b, c⟩ := h.fik y hy
    by_cases ce : y.k = e.k
    · rw [if_pos ce] at ey
      have hye : y = e := by
        have h1 : A y.k = .fi y.S := b
        obtain ⟨i, hi, ei⟩ := List.getElem_of_mem hy
        obtain ⟨q, hq, eq⟩ := List.getElem_of_mem he
        by_cases ciq : i = q
        · subst ciq; rw [← ei, eq]
        · exfalso
          have hp := List.pairwise_iff_getElem.1 nd
          rcases Nat.lt_or_gt_of_ne ciq with cc | cc
          · exact hp i q (by simpa using hi) (by simpa using hq) cc (by simp [ei, eq, ce])
          · exact hp q i (by simpa using hq) (by simpa using hi) cc (by simp [ei, eq, ce])
      subst hye
      subst ey
      refine ⟨a, updA_same _ _ _, fun i hi => ?_⟩
      unfold bput at hi
      simp only [Bool.or_eq_true, decide_eq_true_eq] at hi
      rcases hi with hi | hi
      · omega
      · exact c i hi
    · rw [if_neg ce] at ey
      subst ey
      exact ⟨a, by rw [updA_ne ce]; exact b, c⟩
  cok k hk := by
    obtain ⟨a, b⟩ := h.cok k hk
    have hne : k ≠ e.k := fun e' => h.fc e he (by rw [← e']; exact hk)
    exact ⟨a, by rw [updA_ne hne]; exact b⟩
  non k a b c := by
    rw [updF_keys] at b
    have hne : k ≠ e.k := fun e' => b (List.mem_map.2 ⟨e, he, e'.symm⟩)
    rw [updA_ne hne]
    exact h.non k a b c
  five hm := by
    rw [homeK_eq, updF_keys, ← homeK_eq]; exact h.five hm
theorem delSp_mem {sp : List SpE} {k : Int × Int} {x : SpE} (h : x ∈ delSp sp k) : x ∈ sp ∧ x.k ≠ k := by
  obtain ⟨a, b⟩ := List.mem_filter.1 h
  exact ⟨a, by simpa using b⟩
theorem delFi_mem {fi : List FiE} {k : Int × Int} {x : FiE} (h : x ∈ delFi fi k) : x ∈ fi ∧ x.k ≠ k := by
  obtain ⟨a, b⟩ := List.mem_filter.1 h
  exact ⟨a, by simpa using b⟩
/-- A sparse source has become fine; the home may have too many. -/
structure Good5 (n per : Int) (A : Abs) (sp : List SpE) (fi : List FiE) (co : List (Int × Int)) (hm : Int) : Prop where
  spk : ∀ e ∈ sp, okK n e.k ∧ A e.k = .sp e.l ∧ e.l ≠ [] ∧ e.l.length ≤ 4 ∧ e.l.Nodup ∧ ∀ c ∈ e.l, 0 ≤ c ∧ c < n * per ∧ c / per = e.k.2
  fik : ∀ e ∈ fi, okK n e.k ∧ A e.k = .fi e.S ∧ ∀ j, e.S j = true → (j : Int) < per
  cok : ∀ k ∈ co, okK n k ∧ A k = .co
  non : ∀ k, k ∉ sp.map (·.k) → k ∉ fi.map (·.k) → k ∉ co → A k = .sp []
  five : ∀ h, h ≠ hm → (homeK h fi).length ≤ 4
  six : (homeK hm fi).length ≤ 5
theorem good_refine {n per : Int} {A : Abs} {sp : List SpE} {fi : List FiE} {co : List (Int × Int)} (h : GoodG n per A sp fi co) (e : FiE) (hk : okK n e.k) (hc : e.k ∉ co) (hf : e.k ∉ fi.map (·.k)) (hS : ∀ j, e.S j = true → (j : Int) < per) :
    Good5 n per (updA A e.k (.fi e.S)) (delSp sp e.k) (fi ++ [e]) co e.k.1 where
  spk x hx := by
    obtain ⟨hx, hne⟩ := delSp_mem hx
    obtain ⟨a, b, c⟩ := h.spk x hx
    exact ⟨a, by rw [updA_ne hne]; exact b, c⟩
  fik x hx := by
    rcases List.mem_append.1 hx with hx | hx
    · obtain ⟨a, b, c⟩ := h.fik x hx
      exact ⟨a, by rw [updA_ne (fun e' => hf (List.mem_map.2 ⟨x, hx, e'⟩))]; exact b, c⟩
    · have := List.mem_singleton.1 hx
      subst this
      exact ⟨hk, updA_same _ _ _, hS⟩
  cok k hk := by
    obtain ⟨a, b⟩ := h.cok k hk
    have hne : k ≠ e.k := fun e' => hc (by rw [← e']; exact hk)
    exact ⟨a, by rw [updA_ne hne]; exact b⟩
  non k a b c := by
    have hne : k ≠ e.k := fun e' => b (List.mem_map.2 ⟨e, by simp, e'.symm⟩)
    rw [updA_ne hne]
    refine h.non k (fun hh => a ?_) (fun hh => b ?_) c
    · obtain ⟨x, hx, ex⟩ := List.mem_map.1 hh
      exact List.mem_map.2 ⟨x, List.mem_filter.2 ⟨hx, by simpa [ex] using hne⟩, ex⟩
    · rw [List.map_append]; exact List.mem_append_left _ hh
  five hm hne := by
    have : homeK hm (fi ++ [e]) = homeK hm fi := by
      unfold homeK
      rw [List.flatMap_append]
      have : ([e].flatMap fun e => if e.k.1 = hm then [e.k] else []) = [] := by simp [Ne.symm hne]
      rw [this, List.append_nil]
    rw [this]; exact h.five hm
  six := by
    have h4 := h.five e.k.1
    unfold homeK at h4 ⊢
    rw [List.flatMap_append, List.length_append]
    have : ([e].flatMap fun e' => if e'.k.1 = e.k.1 then [e'.k] else []).length ≤ 1 := by simp
    omega
theorem Good5.isFi {n per hm : Int} {A : Abs} {sp : List SpE} {fi : List FiE} {co : List (Int × Int)} (h : Good5 n per A sp fi co hm) (k : Int × Int) : (A k).isFi = true ↔ k ∈ fi.map (·.k) := by
  constructor
  · intro hi
    by_cases c : k ∈ fi.map (·.k)
    · exact c
    exfalso
    by_cases c2 : k ∈ co
    · rw [(h.cok k c2).2] at hi; cases hi
    by_cases c3 : k ∈ sp.map (·.k)
    · obtain ⟨x, hx, rfl⟩ := List.mem_map.1 c3
      rw [(h.spk x hx).2.1] at hi; cases hi
    · rw [h.non k c3 c c2] at hi; cases hi
  · intro hk
    obtain ⟨x, hx, rfl⟩ := List.mem_map.1 hk
    rw [(h.fik x hx).2.1]; rfl
theorem good_few {n per hm : Int} {A : Abs} {sp : List SpE} {fi : List FiE} {co : List (Int × Int)} (h : Good5 n per A sp fi co hm) (h4 : (homeK hm fi).length ≤ 4) : GoodG n per A sp fi co :=
  ⟨h.spk, h.fik, h.cok, h.non, fun k => by
    by_cases c : k = hm
    · rw [c]; exact h4
    · exact h.five k c⟩
theorem good_coarse {n per hm : Int} {A : Abs} {sp : List SpE} {fi : List FiE} {co : List (Int × Int)} (h : Good5 n per A sp fi co hm) {M : Int × Int} (hM : M ∈ homeK hm fi) : GoodG n per (updA A M .co) sp (delFi fi M) (co ++ [M]) := by
  have hMf := homeK_mem hM
  obtain ⟨m, hm1, hm2⟩ := List.mem_map.1 hMf
  have hAM : A M = .fi m.S := by rw [← hm2]; exact (h.fik m hm1).2.1
  refine ⟨fun x hx => ?_, fun x hx => ?_, fun k hk => ?_, fun k a b c => ?_, fun k => ?_⟩
  · obtain ⟨a, b, c⟩ := h.spk x hx
    refine ⟨a, ?_, c⟩
    rw [updA_ne (fun e => by rw [e, hAM] at b; cases b)]; exact b
  · obtain ⟨hx, hne⟩ := delFi_mem hx
    obtain ⟨a, b, c⟩ := h.fik x hx
    exact ⟨a, by rw [updA_ne hne]; exact b, c⟩
  · rcases List.mem_append.1 hk with hk | hk
    · obtain ⟨a, b⟩ := h.cok k hk
      refine ⟨a, ?_⟩
      rw [updA_ne (fun e => by rw [e, hAM] at b; cases b)]; exact b
    · have := List.mem_singleton.1 hk
      subst this
      exact ⟨by rw [← hm2]; exact (h.fik m hm1).1, updA_same _ _ _⟩
  · have hne : k ≠ M := fun e => c (List.mem_append_right _ (by simp [e]))
    rw [updA_ne hne]
    refine h.non k a (fun hh => b ?_) (fun hh => c (List.mem_append_left _ hh))
    obtain ⟨x, hx, ex⟩ := List.mem_map.1 hh
    exact List.mem_map.2 ⟨x, List.mem_filter.2 ⟨hx, by simpa [ex] using hne⟩, ex⟩
  · have hsub : (homeK k (delFi fi M)).Sublist (homeK k fi) := sub_flat _ List.filter_sublist
    by_cases c : k = hm
    · subst c
      have h6 := h.six
      have : (homeK k (delFi fi M)).length < (homeK k fi).length := by
        rcases Nat.lt_or_eq_of_le hsub.length_le with h1 | h1
        · exact h1
        · exfalso
          have := hsub.eq_of_length h1
          rw [← this] at hM
          obtain ⟨x, hx, ex⟩ := List.mem_map.1 (homeK_mem hM)
          exact (delFi_mem hx).2 ex
      omega
    · exact Nat.le_trans hsub.length_le (h.five k c)
theorem coarsen_few {n per hm : Int} {A : Abs} (h : (finesA n A hm).length ≤ 4) : coarsenA n per A hm = A := by
  unfold coarsenA
  split
  · rfl
  · rename_i x L e
    rw [e, List.length_cons] at h
    rw [if_pos h]
theorem coarsen_most {n per hm : Int} {A : Abs} {sp : List SpE} {fi : List FiE} {co : List (Int × Int)} (h : Good5 n per A sp fi co hm) (nd : (fi.map (·.k)).Nodup) {x : Int × Int} {L : List (Int × Int)} (hp : (x :: L).Perm (homeK hm fi)) (hs : (x :: L).Pairwise (fun a b => a.2 ≤ b.2)) (h4 : 4 < (homeK hm fi).length) :
    coarsenA n per A hm = updA A (maxP (szF per fi) x L) .co ∧ maxP (szF per fi) x L ∈ homeK hm fi := by
  have hf := fines_perm nd (fun e he => (h.fik e he).1) h.isFi hm
  have e1 : (x :: L).map (·.2) = finesA n A hm := by
    refine List.Perm.eq_of_pairwise (le := fun a b => a ≤ b) (fun a b _ _ h1 h2 => by omega) (List.pairwise_map.2 hs) ?_ ((hp.map _).trans hf)
    exact ((rng_sorted n).imp fun h => by omega).filter _
  have hmem : ∀ y ∈ x :: L, y.1 = hm ∧ szF per fi y = szA per (A (hm, y.2)) := fun y hy => by
    have hy := hp.mem_iff.1 hy
    have h1 : y.1 = hm := by rw [homeK_eq] at hy; simpa using (List.mem_filter.1 hy).2
    refine ⟨h1, ?_⟩
    obtain ⟨e, he, rfl⟩ := List.mem_map.1 (homeK_mem hy)
    rw [szF_eq nd he, ← h1]
    show _ = szA per (A e.k)
    rw [(h.fik e he).2.1]; rfl
  have hl : L.length + 1 = (homeK hm fi).length := by have := hp.length_eq; rw [List.length_cons] at this; exact this
  refine ⟨?_, ?_⟩
  · unfold coarsenA
    rw [← e1]
    show (if (L.map (·.2)).length + 1 ≤ 4 then A else _) = _
    rw [List.length_map, if_neg (by omega), maxP_map (sz' := fun s => szA per (A (hm, s))) L x hmem]
  · rcases maxP_mem (szF per fi) L x with e | e
    · rw [e]; exact hp.mem_iff.1 (by simp)
    · exact hp.mem_iff.1 (List.mem_cons_of_mem _ e)
theorem setOf_lt {per : Int} {l : List Int} {j : Nat} (hp : 1 ≤ per) (h : setOf per l j = true) : (j : Int) < per := by
  unfold setOf at h
  obtain ⟨c, _, e⟩ := of_decide_eq_true h
  have e0 := Int.emod_nonneg c (show per ≠ 0 by omega)
  have e1 := Int.emod_lt_of_pos c (show 0 < per by omega)
  omega
theorem restB_sub {b m1 m2 m3 : Nat} {fi fi' : List FiE} (h : fi'.Sublist fi) : ∀ x ∈ restB b m1 m2 m3 fi', x ∈ restB b m1 m2 m3 fi := by
  have : (restB b m1 m2 m3 fi').Sublist (restB b m1 m2 m3 fi) := by
    unfold restB
    exact ((((sub_flat _ h).cons_cons _).cons_cons _).cons_cons _).cons_cons _
  exact fun x hx => this.subset hx
theorem restB_snoc {b m1 m2 m3 : Nat} {fi : List FiE} {e : FiE} {x : Nat} (h : x ∈ restB b m1 m2 m3 (fi ++ [e])) : x ∈ restB b m1 m2 m3 fi ∨ x = e.f ∨ x = e.r := by
  have : restB b m1 m2 m3 (fi ++ [e]) = restB b m1 m2 m3 fi ++ [e.f, e.r] := by simp [restB]
  rw [this] at h
  rcases List.mem_append.1 h with h | h
  · exact .inl h
  · right; simpa using h

set_option maxHeartbeats 1000000 in
theorem Add_RS {w : World} {b : Nat} {B : Nat → Prop} {n per : Int} {A : Abs} (C : RCfg n per) (hm c : Int) (h : RS w b B n per A) :
    CallC Pr f_remset_Sets_Add [.pointer (some ⟨b, 0, none⟩), .int .i64 hm, .int .i64 c] w (fun v w' => v = .tuple #[.bool (addA n per A hm c).1, .int .i64 (addA n per A hm c).2.1] ∧ (∃ B', RS w' b B' n per (addA n per A hm c).2.2 ∧ ∀ x, B' x → B x ∨ w.heap.size ≤ x) ∧ Fr B w w') := by
  obtain ⟨m1, m2, m3, sp, fi, co, hG, g, hB, hBs⟩ := id h
  have C1 := C.p1
  have C2 := C.n1
  have C3 := C.n6
  have C4 := C.np
  have nds : (sp.map (·.k)).Nodup := by rw [← spM_keys]; exact hG.map1.nodup
  have ndf : (fi.map (·.k)).Nodup := by rw [← fiM_keys]; exact hG.map2.nodup
  have mr : ∀ x ∈ [b, m1, m2, m3], x ∈ restB b m1 m2 m3 fi := fun x hx => by
    unfold restB
    simp at hx ⊢
    rcases hx with h | h | h | h <;> simp [h]
  have same : ∀ {w' : World}, Fr No w w' → (∃ B', RS w' b B' n per A ∧ ∀ x, B' x → B x ∨ w.heap.size ≤ x) ∧ Fr B w w' := fun f => ⟨⟨B, h.keep f (fun _ _ => id), fun x hx => .inl hx⟩, f.weak (fun _ _ e => e.elim)⟩
  unfold addA
  by_cases hr : 0 ≤ hm ∧ hm < n ∧ 0 ≤ c ∧ c < n * per
  · rw [if_pos hr]
    by_cases hne : hm = c / per
    · rw [if_pos hne]
      refine CallC_mk (Calls.mono (CallC_elim (Add_shape hm c w hG.tab C1 C2 C4 hr hne)) fun e w' ⟨v, he, hv, f⟩ => ⟨v, he, hv, same f⟩)
    rw [if_neg hne]
    obtain ⟨k, ek⟩ : ∃ k, k = (hm, c / per) := ⟨_, rfl⟩
    have q0 := Int.ediv_nonneg hr.2.2.1 (show 0 ≤ per by omega)
    have q1 : c / per < n := Int.ediv_lt_of_lt_mul (by omega) hr.2.2.2
    have hok : okK n k := by rw [ek]; exact ⟨hr.1, hr.2.1, q0, q1, hne⟩
    rw [← ek]
    -- a sparse source
    have sparse : ∀ l, A k = .sp l → k ∉ co → k ∉ fi.map (·.k) → ((spGet sp k = none ∧ l = []) ∨ ∃ o, spGet sp k = some o ∧ o.l = l) → l.length ≤ 4 → l.Nodup → (∀ x ∈ l, 0 ≤ x ∧ x < n * per ∧ x / per = k.2) →
        CallC Pr f_remset_Sets_Add [.pointer (some ⟨b, 0, none⟩), .int .i64 hm, .int .i64 c] w (fun v w' => v = .tuple #[.bool (if c ∈ l then (false, 0, A) else if l.length < 4 then (true, 0, updA A k (.sp (l ++ [c]))) else (true, 0, coarsenA n per (updA A k (.fi (setOf per (l ++ [c])))) hm) : Bool × Int × Abs).1,
          .int .i64 (if c ∈ l then (false, 0, A) else if l.length < 4 then (true, 0, updA A k (.sp (l ++ [c]))) else (true, 0, coarsenA n per (updA A k (.fi (setOf per (l ++ [c])))) hm) : Bool × Int × Abs).2.1] ∧
          (∃ B', RS w' b B' n per (if c ∈ l then (false, 0, A) else if l.length < 4 then (true, 0, updA A k (.sp (l ++ [c]))) else (true, 0, coarsenA n per (updA A k (.fi (setOf per (l ++ [c])))) hm) : Bool × Int × Abs).2.2 ∧ ∀ x, B' x → B x ∨ w.heap.size ≤ x) ∧ Fr B w w') := by
      intro l hA hc hf hl h4 hnd hall
      have hco : getM (coM co) k = none := co_not hc
      have hfi : getM (fiM fi) k = none := fi_not hf
      have hall' : ∀ x ∈ l ++ [c], 0 ≤ x ∧ x < n * per ∧ x / per = k.2 := fun x hx => by
        rcases List.mem_append.1 hx with hx | hx
        · exact hall x hx
        · have := List.mem_singleton.1 hx
          subst this
          exact ⟨hr.2.2.1, hr.2.2.2, by rw [ek]⟩
      rw [ek] at hco hfi hl
      by_cases c1 : c ∈ l
      · rw [if_pos c1]
        refine CallC_mk (Calls.mono (CallC_elim (Add_in hm c l w hG C1 C2 C4 hr hne hco hfi hl c1 (by omega))) fun e w' ⟨v, he, hv, f⟩ => ⟨v, he, hv, same f⟩)
      rw [if_neg c1]
      by_cases c2 : l.length < 4
      · rw [if_pos c2]
        refine CallC_mk (Calls.mono (CallC_elim (Add_sp hm c l w hG C1 C2 C4 hr hne hco hfi hl c1 c2)) fun e w' hh => ?_)
        obtain ⟨v, he, hv, ⟨x, xk, xl, hS, xg⟩, f⟩ := hh
        rw [← ek] at xk
        have hgd := good_put g nds x (by rw [xk]; exact hok) (by rw [xk]; exact hc) (by rw [xk]; exact hf) (by rw [xl]; simp) (by rw [xl, List.length_append]; show l.length + 1 ≤ 4; omega) (by
          rw [xl]
          refine List.nodup_append.2 ⟨hnd, by simp, fun a ha b' hb' e' => c1 ?_⟩
          have : b' = c := by simpa using hb'
          rw [← this, ← e']; exact ha) (by rw [xl, xk]; exact hall')
        rw [xk, xl] at hgd
        refine ⟨v, he, hv, ⟨fun y => B y ∨ w.heap.size ≤ y, ⟨m1, m2, m3, _, _, _, hS, hgd, fun y hy => .inl (hB y hy), fun y hy => ?_⟩, fun y hy => hy⟩, f.weak (fun y _ e => ?_)⟩
        · rcases mem_putSp hy with rfl | hy
          · rcases xg with ⟨o, ho, eg⟩ | hle
            · rw [eg]; exact .inl (hBs o (spGet_some ho).1)
            · exact .inr hle
          · exact .inl (hBs y hy)
        · rcases e with e | ⟨o, ho, e⟩
          · rw [e]; exact hB m1 (mr _ (by simp))
          · rw [e]; exact hBs o (spGet_some ho).1
      · rw [if_neg c2]
        refine CallC_mk (Calls.mono (CallC_elim (Add_full hm c l w hG C1 C2 C4 hr hne hco hfi hl c1 (by omega) (by omega) (fun x hx => (hall x hx).1) (idx_not (by rw [fiM_keys, ← ek]; exact hf)) C3 (g.five hm) (fun e he => by have := (g.fik e he).1; unfold okK at this; omega) g.fc (by rw [← ek]; exact hc))) fun e w' hh => ?_)
        obtain ⟨v, he, hv, ⟨f, r, fi1, efi1, hf1, hr1, hcase⟩, fr⟩ := hh
        rw [← ek] at efi1 hcase fr
        have h5 := good_refine g ⟨k, f, r, setOf per (l ++ [c])⟩ hok hc hf (fun j hj => setOf_lt C1 hj)
        rw [← efi1] at h5
        have hk1 : k.1 = hm := by rw [ek]
        have h5 : Good5 n per (updA A k (.fi (setOf per (l ++ [c])))) (delSp sp k) fi1 co hm := by rw [← hk1]; exact h5
        have ndf1 : (fi1.map (·.k)).Nodup := by
          rw [efi1, List.map_append]
          refine List.nodup_append.2 ⟨ndf, by simp, fun a ha b' hb' e' => hf ?_⟩
          have : b' = k := by simpa using hb'
          rw [← this, ← e']; exact ha
        have hbl : ∀ y ∈ restB b m1 m2 m3 fi1, B y ∨ w.heap.size ≤ y := fun y hy => by
          rw [efi1] at hy
          rcases restB_snoc hy with h1 | h1 | h1
          · exact .inl (hB y h1)
          · right; rw [h1]; exact hf1
          · right; rw [h1]; exact hr1
        have hfr : Fr B w w' := fr.weak (fun y _ e => by
          rcases e with e | e | e | ⟨o, ho, e⟩
          · rw [e]; exact hB m1 (mr _ (by simp))
          · rw [e]; exact hB m2 (mr _ (by simp))
          · rw [e]; exact hB m3 (mr _ (by simp))
          · rw [e]; exact hBs o (spGet_some ho).1)
        have hlen : (finesA n (updA A k (.fi (setOf per (l ++ [c])))) hm).length = (homeK hm fi1).length := by
          have := (fines_perm ndf1 (fun e he => (h5.fik e he).1) h5.isFi hm).length_eq
          rw [List.length_map] at this; exact this.symm
        rcases hcase with ⟨h4', hS⟩ | ⟨h4', x, L, hp, hs, hS⟩
        · rw [coarsen_few (by omega)]
          exact ⟨v, he, hv, ⟨fun y => B y ∨ w.heap.size ≤ y, ⟨m1, m2, m3, _, _, _, hS, good_few h5 h4', hbl, fun y hy => .inl (hBs y (delSp_mem hy).1)⟩, fun y hy => hy⟩, hfr⟩
        · obtain ⟨ec, hM⟩ := coarsen_most h5 ndf1 hp hs h4'
          rw [ec]
          exact ⟨v, he, hv, ⟨fun y => B y ∨ w.heap.size ≤ y, ⟨m1, m2, m3, _, _, _, hS, good_coarse h5 hM, fun y hy => hbl y (restB_sub List.filter_sublist y hy), fun y hy => .inl (hBs y (delSp_mem hy).1)⟩, fun y hy => hy⟩, hfr⟩
    rcases g.src k with ⟨hc, eA⟩ | ⟨e, he, hek, hnc, eA⟩ | ⟨⟨e, he, hek, eA⟩, hnc, hnf⟩ | ⟨hns, hnc, hnf, eA⟩
    · rw [eA]
      rw [ek] at hc
      refine CallC_mk (Calls.mono (CallC_elim (Add_co hm c w hG C1 C2 C4 hr hne hc)) fun e w' ⟨v, he, hv, f⟩ => ⟨v, he, hv, same f⟩)
    · rw [eA]
      have hco := co_not hnc
      have hek' := hek
      rw [ek] at hco hek'
      refine CallC_mk (Calls.mono (CallC_elim (Add_fi hm c e w hG C1 C2 C4 hr hne hco he hek')) fun e' w' hh => ?_)
      obtain ⟨v, he', hv, hS, f⟩ := hh
      have e1 := Int.emod_lt_of_pos c (show 0 < per by omega)
      have e0 := Int.emod_nonneg c (show per ≠ 0 by omega)
      have hgd := good_updF g ndf he (c % per).toNat (by omega)
      rw [← hek'] at hS
      rw [hek] at hgd
      rw [← ek] at hek'
      rw [hek'] at hS
      have her : e.r ∈ restB b m1 m2 m3 fi := by
        unfold restB
        simp only [List.mem_cons, List.mem_flatMap]
        exact .inr (.inr (.inr (.inr ⟨e, he, by simp⟩)))
      exact ⟨v, he', hv, ⟨B, ⟨m1, m2, m3, _, _, _, hS, hgd, fun y hy => by rw [updF_rest] at hy; exact hB y hy, hBs⟩, fun y hy => .inl hy⟩, f.weak (fun y _ e' => by rw [e']; exact hB _ her)⟩
    · rw [eA]
      obtain ⟨_, _, _, a4, a5, a6⟩ := g.spk e he
      refine sparse e.l eA hnc hnf (.inr ⟨e, by rw [← hek]; exact spGet_of nds he, rfl⟩) a4 a5 (by rw [← hek]; exact a6)
    · rw [eA]
      refine sparse [] eA hnc hnf (.inl ⟨?_, rfl⟩) (by decide) List.nodup_nil (fun x hx => by cases hx)
      cases hh : spGet sp k with
      | none => rfl
      | some o =>
        obtain ⟨ho, hk', _⟩ := spGet_some hh
        exact absurd (List.mem_map.2 ⟨o, ho, hk'⟩) hns
  · rw [if_neg hr]
    refine CallC_mk (Calls.mono (CallC_elim (Add_range hm c w hG.tab C1 C2 C4 hr)) fun e w' ⟨v, he, hv, f⟩ => ⟨v, he, hv, same f⟩)
end Go.Proofs.YtdhbpklmkibmbaaGreat
