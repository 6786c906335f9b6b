/- Layer 11 (remset): a source becomes fine, and one of too many coarse. -/
import Derived.Test.YtdhbpklmkibmbaaGreatRem9
namespace Go.Proofs.YtdhbpklmkibmbaaGreat
open Go.Vc

/-- The fine sources of a home. -/
def homeK (hm : Int) (fi : List FiE) : List (Int × Int) := fi.flatMap fun e => if e.k.1 = hm then [e.k] else []
theorem homeK_mem {hm : Int} {fi : List FiE} {z : Int × Int} (h : z ∈ homeK hm fi) : z ∈ fi.map (·.k) := by
  unfold homeK at h
  obtain ⟨e, he, hz⟩ := List.mem_flatMap.1 h
  split at hz
  · exact List.mem_map.2 ⟨e, he, (List.mem_singleton.1 hz).symm⟩
  · cases hz
theorem flat_delK {α κ β : Type} [DecidableEq κ] (key : α → κ) {F : α → List β} {l : List α} {x : α} (nd : (l.map key).Nodup) (hx : x ∈ l) : (l.flatMap F).Perm (F x ++ (l.filter fun y => !decide (key y = key x)).flatMap F) := by
  induction l with
  | nil => cases hx
  | cons y l ih =>
    rw [List.map_cons, List.nodup_cons] at nd
    rcases List.mem_cons.1 hx with e | h
    · subst e
      have : (x :: l).filter (fun y => !decide (key y = key x)) = l := by
        rw [List.filter_cons, if_neg (by simp), List.filter_eq_self]
        intro z hz
        simp only [Bool.not_eq_true', decide_eq_false_iff_not]
        intro e2
        exact nd.1 (List.mem_map.2 ⟨z, hz, e2⟩)
      rw [this, List.flatMap_cons]
    · have hne : key y ≠ key x := fun e => nd.1 (List.mem_map.2 ⟨x, h, e.symm⟩)
      rw [List.filter_cons, if_pos (by simp [hne]), List.flatMap_cons, List.flatMap_cons]
      refine ((ih nd.2 h).append_left (F y)).trans ?_
      rw [← List.append_assoc, ← List.append_assoc]
      exact List.perm_append_comm.append_right _
def toB (l : List (Int × Int)) (h : ∀ z ∈ l, 0 ≤ z.2 ∧ z.2 ≤ 65536) : List BP := l.attach.map fun z => ⟨z.1, h z.1 z.2⟩
theorem toB_fst (l : List (Int × Int)) (h : ∀ z ∈ l, 0 ≤ z.2 ∧ z.2 ≤ 65536) : (toB l h).map (·.1) = l := by
  unfold toB
  rw [List.map_map]
  exact List.attach_map_subtype_val l
theorem sub_flat {α β : Type} (f : α → List β) {l1 l2 : List α} (h : l1.Sublist l2) : (l1.flatMap f).Sublist (l2.flatMap f) := by
  induction h with
  | slnil => exact List.Sublist.refl _
  | cons a _ ih => rw [List.flatMap_cons]; exact ih.trans (List.sublist_append_right _ _)
  | cons_cons a _ ih => rw [List.flatMap_cons, List.flatMap_cons]; exact (List.Sublist.refl _).append ih
/-- Fine sources go, or become coarse. -/
theorem SetsG.less {w w' : World} {b m1 m2 m3 : Nat} {n per : Int} {sp sp' : List SpE} {fi fi' : List FiE} {co co' : List (Int × Int)} (h : SetsG w b m1 m2 m3 n per sp fi co) (hs : sp'.Sublist sp) (hfi : fi'.Sublist fi) {F : Nat → Prop} (f : Fr F w w')
    (hF : ∀ x, F x → x = m1 ∨ x = m2 ∨ x = m3) (hM1 : MapG pairV w' m1 (spM sp')) (hM2 : MapG pairV w' m2 (fiM fi')) (hM3 : MapG pairV w' m3 (coM co')) : SetsG w' b m1 m2 m3 n per sp' fi' co' := by
  have hnd := h.rs
  have hsubR : (restB b m1 m2 m3 fi').Sublist (restB b m1 m2 m3 fi) := by
    unfold restB
    exact ((((sub_flat _ hfi).cons_cons _).cons_cons _).cons_cons _).cons_cons _
  have mr : ∀ x ∈ [m1, m2, m3], x ∈ restB b m1 m2 m3 fi := fun x hx => by
    unfold restB
    simp at hx ⊢
    rcases hx with h | h | h <;> simp [h]
  unfold restB at hnd
  simp only [List.nodup_cons, List.mem_cons, not_or] at hnd
  obtain ⟨⟨n1, n2, n3, n4⟩, ⟨n5, n6, n7⟩, ⟨n8, n9⟩, n10, n11⟩ := hnd
  have hset : ∀ e ∈ fi, ∀ x ∈ [e.f, e.r], ¬ F x := fun e he x hx hf => by
    have : x ∈ fi.flatMap (fun e => [e.f, e.r]) := List.mem_flatMap.2 ⟨e, he, hx⟩
    rcases hF x hf with e1 | e1 | e1
    · exact n7 (e1 ▸ this)
    · exact n9 (e1 ▸ this)
    · exact n10 (e1 ▸ this)
  refine ⟨h.tab.keep f (fun hf => ?_), hM1, hM2, hM3, fun e he => own_keepV (h.rows e (hs.subset he)) f (fun x hx hf => ?_), fun e he => (h.sets e (hfi.subset he)).keep f (hset e (hfi.subset he) e.f (by simp)) (hset e (hfi.subset he) e.r (by simp)), h.gs.sublist (hs.map _), h.rs.sublist hsubR, fun e he hm => h.dj e (hs.subset he) (hsubR.subset hm)⟩
  · rcases hF b hf with e1 | e1 | e1
    · exact n1 e1
    · exact n2 e1
    · exact n3 e1
  · injection hx with hx
    have hx : e.g = x := hx
    rcases hF x hf with e1 | e1 | e1
    · exact h.dj e (hs.subset he) (by rw [hx, e1]; exact mr _ (by simp))
    · exact h.dj e (hs.subset he) (by rw [hx, e1]; exact mr _ (by simp))
    · exact h.dj e (hs.subset he) (by rw [hx, e1]; exact mr _ (by simp))
set_option maxHeartbeats 2000000 in
theorem refine_any {b m1 m2 m3 : Nat} {n per : Int} {sp : List SpE} {fi : List FiE} {co : List (Int × Int)} (k : Int × Int) (lv : Value) (l : List Int) (w0 w : World) (h : SetsG w0 b m1 m2 m3 n per sp fi co) (f0 : Fr (fun x => ∃ o, spGet sp k = some o ∧ x = o.g) w0 w) (hM1 : MapG pairV w m1 (spM sp))
    (hown : Own w 0 lv l) (hlm : ∀ x, lv.ownBlock = some x → x ≠ m1) (hl0 : ∀ c ∈ l, 0 ≤ c) (hll : l.length ≤ 1000) (hp : 1 ≤ per) (hp2 : per ≤ 4194304) (hi : idxM (fiM fi) k = none) (hfive : (homeK k.1 fi).length ≤ 4) (hsrc : ∀ e ∈ fi, 0 ≤ e.k.2 ∧ e.k.2 ≤ 65536) (hks : 0 ≤ k.2 ∧ k.2 ≤ 65536) (hfc : ∀ e ∈ fi, e.k ∉ co) (hkc : k ∉ co) :
    CallC Pr f_remset_Sets_refine [.pointer (some ⟨b, 0, none⟩), pairV k, lv] w (fun v w' => v = .tuple #[] ∧ (∃ f r fi1, fi1 = fi ++ [⟨k, f, r, setOf per l⟩] ∧ w0.heap.size ≤ f ∧ w0.heap.size ≤ r ∧
        (((homeK k.1 fi1).length ≤ 4 ∧ SetsG w' b m1 m2 m3 n per (delSp sp k) fi1 co) ∨ (4 < (homeK k.1 fi1).length ∧ ∃ x L, (x :: L).Perm (homeK k.1 fi1) ∧ (x :: L).Pairwise (fun a b => a.2 ≤ b.2) ∧ SetsG w' b m1 m2 m3 n per (delSp sp k) (delFi fi1 (maxP (szF per fi1) x L)) (co ++ [maxP (szF per fi1) x L])))) ∧
      Fr (fun x => x = m1 ∨ x = m2 ∨ x = m3 ∨ ∃ o, spGet sp k = some o ∧ x = o.g) w0 w' ∧ Fr (fun x => x = m1 ∨ x = m2 ∨ x = m3) w w') := by
  obtain ⟨a, cp, ev⟩ := own_slice hown
  subst ev
  have hnR : ∀ x ∈ restB b m1 m2 m3 fi, ¬ ∃ o, spGet sp k = some o ∧ x = o.g := fun x hx ⟨o, ho, e⟩ => h.dj o (spGet_some ho).1 (by rw [← e]; exact hx)
  have mr : ∀ x ∈ [b, m1, m2, m3], x ∈ restB b m1 m2 m3 fi := fun x hx => by
    unfold restB
    simp at hx ⊢
    rcases hx with h | h | h | h <;> simp [h]
  have hT := h.tab.keep f0 (hnR b (mr _ (by simp)))
  have hM2 := h.map2.keep f0 (hnR m2 (mr _ (by simp)))
  have hnd := h.rs
  unfold restB at hnd
  simp only [List.nodup_cons, List.mem_cons, not_or] at hnd
  obtain ⟨⟨n1, n2, n3, n4⟩, ⟨n5, n6, n7⟩, ⟨n8, n9⟩, n10, n11⟩ := hnd
  have s0 := f0.size
  have lb := h.tab.lt
  have l1 := h.map1.lt
  have l2 := h.map2.lt
  have l3 := h.map3.lt
  refine call_sound T_ok fun_remset_Sets_refine rfl (by kernel_rfl) rfl (Kp ?_)
  refine NewC_blk (fun p w1 hp1 h1 f1 s1 => ?_)
  have h1 : Blk w1 p t_p_remset_Sets [.pointer (some ⟨b, 0, none⟩)] := h1
  refine NewC_blk (fun q w2 hq2 h2 f2 s2 => ?_)
  have h2 : Blk w2 q t_remset_pair (pairL k) := h2
  have h1 := h1.keep f2 id
  have f02 := f1.no f2
  refine AnyC_plan T_ok mixed (planO [0,1,2,3,4,1005]) (fun w' => Blk w' p t_p_remset_Sets [.pointer (some ⟨b, 0, none⟩)] ∧ Blk w' b t_remset_Sets (setsL n per m1 m2 m3) ∧ Blk w' q t_remset_pair (pairL k)) (by kernel_rfl) (by kernel_rfl) ⟨h1.keep (Fr.drew w2) id, (hT.keep f02 id).keep (Fr.drew w2) id, h2.keep (Fr.drew w2) id⟩ (Kp ?_)
  refine LdS_of (fun w' hw => hw.1) rfl ?_
  refine LdS_of (fun w' hw => hw.2.1) rfl ?_
  refine LdSN_of (vs := pairL k) (fun w' hw => hw.2.2) rfl rfl ?_
  refine ⟨?_, trivial⟩
  refine DelC T_ok (kv := pairV) rfl keyP ((hM1.keep f02 id).keep (Fr.drew w2) id) k (fun w3 hM3 f3 s3 => ?_)
  have f3 := f3.drewL
  have hp3 := h1.keep f3 (by omega)
  have hb3 := (hT.keep f02 id).keep f3 n1
  have hq3 := h2.keep f3 (by omega)
  refine Sd_intro ⟨hp3, hb3, hq3⟩ ?_
  refine LdC_blk hp3 rfl ?_
  refine LdC_blk hb3 rfl ?_
  have s2' := f02.size
  have s3' := f3.size
  refine CallC_intro (bits_New_spec per w3 (by omega) hp2) (fun v w4 ⟨f, r, hv, hS4, f4, hf4, hr4⟩ => ?_)
  subst hv
  have F03 : Fr (fun x => x = m1 ∨ ∃ o, spGet sp k = some o ∧ x = o.g) w0 w3 := (f0.trans f02 (H := fun x => ∃ o, spGet sp k = some o ∧ x = o.g) (fun _ _ e => e) (fun _ _ e => e.elim)).trans f3 (fun _ _ e => .inr e) (fun _ _ e => .inl e)
  have fl : f < w4.heap.size ∧ r < w4.heap.size := bits_lt hS4
  have E04 : Fr (fun x => x = m1) w w4 := (f02.noL f3).trans f4 (fun _ _ e => e) (fun _ _ e => e.elim)
  have hp4 := hp3.keep f4 id
  have hb4 := hb3.keep f4 id
  have hq4 := hq3.keep f4 id
  refine LoopC_intro (α := Int) (fun i => [(27, .slice a l.length cp), (28, .int .i64 l.length), (29, .int .i64 i), (3, .pointer (some ⟨p, 0, none⟩)), (4, .pointer (some ⟨q, 0, none⟩)), (6, .pointer (some ⟨f, 0, none⟩))])
    (fun m i w5 => Fr (fun x => x = r) w4 w5 ∧ 0 ≤ i ∧ i ≤ l.length ∧ IsBits w5 f r per (setOf per (l.take i.toNat)) ∧ m = (l.length - i).toNat)
    l.length 0 ⟨rfl, rfl, rfl, rfl, rfl, rfl, trivial⟩ ⟨Fr.refl _ _, Int.le_refl _, by show (0 : Int) ≤ _; omega, ?_, by show _ = ((l.length : Int) - 0).toNat; omega⟩ (fun m i w5 hJ => Kp ?_)
  · have : setOf per (l.take (0 : Int).toNat) = fun _ => false := by
      funext j
      unfold setOf
      rw [decide_eq_false]
      rintro ⟨c, hc, _⟩
      cases hc
    rw [this]; exact hS4
  obtain ⟨f5, i0, i1, hS5, hm⟩ := hJ
  have i0 : 0 ≤ i := i0
  have i1 : i ≤ l.length := i1
  have hb5 := hb4.keep f5 (show ¬ b = r by omega)
  have hp5 := hp4.keep f5 (show ¬ p = r by omega)
  have hq5 := hq4.keep f5 (show ¬ q = r by omega)
  refine Br_dec (fun g0 => ?_) (fun g0 => ?_)
  · have g0 : i < (l.length : Int) := g0
    have hi' : i.toNat < l.length := by omega
    -- the row of the list still stands
    have hg : Own w5 0 (.slice a l.length cp) l := by
      have hk3 : Own w3 0 (.slice a l.length cp) l := own_keepV (hown.keep f02 (fun _ _ => id)) f3 (fun x hx e => hlm x hx e)
      have hk4 := hk3.keep f4 (fun _ _ => id)
      exact own_keepV hk4 f5 (fun x hx e => by have := hk3.lt x hx; omega)
    obtain ⟨ad, rfl, hc⟩ := hg.ints.cell hi'
    have hc0 := hl0 _ (List.getElem_mem hi')
    refine Sd_intro (show 0 ≤ i ∧ i < (l.length : Int) by omega) ?_
    refine LdC_intro (v := .int .i64 l[i.toNat]) (by rw [Nat.mul_one]; exact hc) ?_
    refine LdC_blk hp5 rfl ?_
    refine LdC_blk hb5 rfl ?_
    refine Sd_intro (by omega) ?_
    have em : l[i.toNat].tmod per = l[i.toNat] % per := Int.tmod_eq_emod_of_nonneg hc0
    have e0 := Int.emod_nonneg l[i.toNat] (show per ≠ 0 by omega)
    have e1 := Int.emod_lt_of_pos l[i.toNat] (show 0 < per by omega)
    refine CallC_intro (Put_spec (l[i.toNat].tmod per) w5 hS5 (by omega) (by omega)) (fun v w6 ⟨hv, hS6, f6⟩ => ?_)
    subst hv
    refine ⟨(l.length - (i + 1)).toNat, _, by omega, ?_, i + 1, rfl, f5.same f6, (show 0 ≤ i + 1 by omega), (show i + 1 ≤ (l.length : Int) by omega), ?_, rfl⟩
    · exact ⟨rfl, rfl, look_int rfl (wrap_i64 (by omega) (by omega)), rfl, rfl, rfl, trivial⟩
    · show IsBits w6 f r per (setOf per (l.take (i + 1).toNat))
      rw [show (i + 1).toNat = i.toNat + 1 by omega, setOf_snoc per l hi', ← em]; exact hS6
  have g0 : ¬ i < (l.length : Int) := g0
  have hS5 : IsBits w5 f r per (setOf per l) := by
    rw [List.take_of_length_le (by omega)] at hS5; exact hS5
  have F05 : Fr (fun x => x = m1 ∨ ∃ o, spGet sp k = some o ∧ x = o.g) w0 w5 := (F03.trans f4 (H := fun x => x = m1 ∨ ∃ o, spGet sp k = some o ∧ x = o.g) (fun _ _ e => e) (fun _ _ e => e.elim)).new f5 (fun _ _ e => e) (fun x e => by omega)
  have hM2' : MapG pairV w5 m2 (fiM fi) := h.map2.keep F05 (fun e => by
    rcases e with e | e
    · exact n5 e.symm
    · exact hnR m2 (mr _ (by simp)) e)
  have hM1' : MapG pairV w5 m1 (delM (spM sp) k) := (hM3.keep f4 id).keep f5 (show ¬ m1 = r by omega)
  have s45 := f4.size
  have s5' := f5.size
  refine AnyC_plan T_ok mixed (planO [0,1,2,3,4,5,1006]) (fun w' => Blk w' p t_p_remset_Sets [.pointer (some ⟨b, 0, none⟩)] ∧ Blk w' b t_remset_Sets (setsL n per m1 m2 m3) ∧ Blk w' q t_remset_pair (pairL k)) (by kernel_rfl) (by kernel_rfl) ⟨hp5.keep (Fr.drew w5) id, hb5.keep (Fr.drew w5) id, hq5.keep (Fr.drew w5) id⟩ (Kp ?_)
  refine LdS_of (fun w' hw => hw.1) rfl ?_
  refine LdS_of (fun w' hw => hw.2.1) rfl ?_
  refine LdSN_of (vs := pairL k) (fun w' hw => hw.2.2) rfl rfl ?_
  refine ⟨?_, trivial⟩
  refine UpdC T_ok (kv := pairV) rfl keyP (hM2'.keep (Fr.drew w5) id) k _ (fun w6 hM6 f6 s6 => ?_)
  have f6 := f6.drewL
  have hp6 := hp5.keep f6 (show ¬ p = m2 by omega)
  have hb6 := hb5.keep f6 n2
  have hq6 := hq5.keep f6 (show ¬ q = m2 by omega)
  refine Sd_intro ⟨hp6, hb6, hq6⟩ ?_
  have hS6 := hS5.keep f6 (show ¬ f = m2 by omega) (show ¬ r = m2 by omega)
  have F06 : Fr (fun x => x = m1 ∨ x = m2 ∨ ∃ o, spGet sp k = some o ∧ x = o.g) w0 w6 := F05.trans f6 (fun _ _ e => by rcases e with e | e; exact .inl e; exact .inr (.inr e)) (fun _ _ e => .inr (.inl e))
  have E06 : Fr (fun x => x = m1 ∨ x = m2) w w6 := (E04.new f5 (fun _ _ e => e) (fun x e => by omega)).trans f6 (fun _ _ e => .inl e) (fun _ _ e => .inr e)
  have G : SetsG w6 b m1 m2 m3 n per (delSp sp k) (fi ++ [⟨k, f, r, setOf per l⟩]) co := h.refine (e := ⟨k, f, r, setOf per l⟩) F06 (fun _ e => e) (hM1'.keep f6 n5) hi hM6 hS6 (by show _ ≤ f; omega) (by show _ ≤ r; omega)
  obtain ⟨fi1, efi1⟩ : ∃ fi1, fi1 = fi ++ [⟨k, f, r, setOf per l⟩] := ⟨_, rfl⟩
  have hM6 : MapG pairV w6 m2 (fiM fi1) := by rw [efi1]; have := put_fiM (e := ⟨k, f, r, setOf per l⟩) hi; rw [this]; exact hM6
  rw [← efi1] at G
  have hfi1 : ∀ e ∈ fi1, (0 ≤ e.k.2 ∧ e.k.2 ≤ 65536) ∧ e.k ∉ co := fun e he => by
    rw [efi1] at he
    rcases List.mem_append.1 he with h | h
    · exact ⟨hsrc e h, hfc e h⟩
    · have := List.mem_singleton.1 h
      subst this; exact ⟨hks, hkc⟩
  have hfive1 : (homeK k.1 fi1).length ≤ 5 := by
    rw [efi1]; unfold homeK at hfive ⊢
    rw [List.flatMap_append, List.length_append]
    have : ([(⟨k, f, r, setOf per l⟩ : FiE)].flatMap fun e => if e.k.1 = k.1 then [e.k] else []).length ≤ 1 := by simp
    omega
  refine LdC_blk hp6 rfl ?_
  refine LdC_blk hb6 rfl ?_
  refine RangeC T_ok rfl hM6 (fun it w7 hit hI7 f7 s7 => ?_)
  have s6' := f6.size
  refine LoopC_intro (α := Value) (fun av => [(52, .pointer (some ⟨it, 0, none⟩)), (3, .pointer (some ⟨p, 0, none⟩)), (4, .pointer (some ⟨q, 0, none⟩)), (10, av)])
    (fun m av w8 => Fr No w6 w8 ∧ Blk w8 p t_p_remset_Sets [.pointer (some ⟨b, 0, none⟩)] ∧ Blk w8 q t_remset_pair (pairL k) ∧ ∃ left cur al fil, IterG pairV w8 m2 it (fiM fi1) left cur ∧ w8.ownsRow w7.heap.size t_remset_pair 2 av al.length (pairsL al) ∧ left = fiM fil ∧ fil.Sublist fi1 ∧ (al ++ homeK k.1 fil).Perm (homeK k.1 fi1) ∧ m = left.length)
    (fiM fi1).length (.slice none 0 0) ⟨rfl, rfl, rfl, rfl, trivial⟩ ⟨f7, hp6.keep f7 id, hq6.keep f7 id, _, none, [], fi1, hI7, World.ownsRow_nil _ _ _ _, rfl, List.Sublist.refl _, List.Perm.refl _, rfl⟩ (fun m av w8 hJ => Kp ?_)
  obtain ⟨f8, hp8, hq8, left, cur, al, fil, hI8, own8, rfl, hsub, hperm, hm⟩ := hJ
  have s8 := f8.size
  have hal : al.length ≤ 5 := by have := hperm.length_eq; rw [List.length_append] at this; omega
  refine NextC pairV_inj hI8 (fun hl => ?_) (fun x hx w9 hI9 f9 s9 => ?_)
  · have hfil : fil = [] := by
      cases fil with
      | nil => rfl
      | cons x l => cases hl
    subst hfil
    have hpA : al.Perm (homeK k.1 fi1) := by simpa [homeK] using hperm
    have hlA := hpA.length_eq
    obtain ⟨aa, cc, ea⟩ := own_slice own8
    subst ea
    have G8 := G.keep f8 (fun _ _ => id) (fun _ _ => id)
    refine Br_dec (fun g4 => ?_) (fun g4 => ?_)
    · have g4 : (al.length : Int) ≤ 4 := g4
      refine ⟨rfl, ⟨f, r, fi1, efi1, by omega, by omega, .inl ⟨by omega, G8⟩⟩, ?_, ?_⟩
      · exact F06.trans f8 (fun _ _ e => by rcases e with e | e | e; exact .inl e; exact .inr (.inl e); exact .inr (.inr (.inr e))) (fun _ _ e => e.elim)
      · exact E06.trans f8 (fun _ _ e => by rcases e with e | e; exact .inl e; exact .inr (.inl e)) (fun _ _ e => e.elim)
    · have g4 : ¬ (al.length : Int) ≤ 4 := g4
      have hkeys : ∀ z ∈ al, z ∈ fi1.map (·.k) := fun z hz => homeK_mem (hpA.mem_iff.1 hz)
      have hsm : ∀ z ∈ al, 0 ≤ z.2 ∧ z.2 ≤ 65536 := fun z hz => by
        obtain ⟨e, he, ek⟩ := List.mem_map.1 (hkeys z hz)
        rw [← ek]; exact (hfi1 e he).1
      refine NewC_blk (fun t12 w10 ht12 h10 f10 s10 => ?_)
      refine StC_blk h10 rfl rfl (fun w11 h11 f11 s11 => ?_)
      obtain ⟨u12, h11⟩ : ∃ u, Blk w11 t12 u [.func (.func f_remset_Sets_refine_1) #[] #[.pointer (some ⟨p, 0, none⟩)]] := ⟨_, h11⟩
      have f811 : Fr No w8 w11 := f10.new f11 (fun _ _ e => e) (fun y e => by omega)
      have own11 : OwnP w11 w7.heap.size (.slice aa al.length cc) ((toB al hsm).map (·.1)) := by
        rw [toB_fst]; exact own_keepV own8 f811 (fun _ _ => id)
      have hbl : (toB al hsm).length = al.length := by rw [← List.length_map (f := fun x : BP => x.1), toB_fst]
      refine CallC_intro (SortP_spec (.slice aa al.length cc) (toB al hsm) w11 own11 (by omega)) (fun v w12 hv => ?_)
      obtain ⟨hv, l', hl', hsort, own12, f12⟩ := hv
      subst hv
      have hperm' : (l'.map (·.1)).Perm al := by have := hl'.map (·.1); rw [toB_fst] at this; exact this
      have hsort' : (l'.map (·.1)).Pairwise (fun a b => a.2 ≤ b.2) := List.pairwise_map.2 hsort
      generalize (l'.map (·.1)) = LL at hperm' hsort' own12
      have hLL := hperm'.length_eq
      cases LL with
      | nil => simp at hLL; omega
      | cons x L =>
        have hL4 : L.length = al.length - 1 := by rw [List.length_cons] at hLL; omega
        have s12 := f12.size
        have F612 : Fr No w6 w12 := (f8.no f811).new f12 (fun _ _ e => e) (fun y e => by have := own_ge own8 y e; omega)
        have hpx : ∀ z ∈ x :: L, z ∈ fi1.map (·.k) := fun z hz => hkeys z (hperm'.mem_iff.1 hz)
        have G12 := G.keep F612 (fun _ _ => id) (fun _ _ => id)
        have own12' : OwnP w12 w7.heap.size (.slice aa al.length cc) (x :: L) := own12
        rcases own_cases own12' with ⟨h0, h1, _⟩ | ⟨g, cap, cur, hv, hbg, hbb, htt, _⟩
        · cases h1
        injection hv with hv1 hv2 hv3
        subst hv1
        have own13 : OwnP w12 w7.heap.size (.slice (some ⟨g, 0, none⟩) (x :: L).length cc) (x :: L) := by rw [← hv2]; exact own12'
        have h12t := h11.keep f12 (fun e => by have := (World.ownsRow.lt own8 t12 e).2; omega)
        have hp12 := hp6.keep F612 id
        have hb12 := hb6.keep F612 id
        rw [hv2]
        refine CallC_intro (MaxP_spec x L w12 G12 hp12 h12t own13 (by omega) hpx ⟨by omega, hp2⟩) (fun v w13 ⟨hv, f13⟩ => ?_)
        subst hv
        obtain ⟨M, eM⟩ : ∃ M, M = maxP (szF per fi1) x L := ⟨_, rfl⟩
        rw [← eM]
        have hMk : M ∈ fi1.map (·.k) := by
          rcases maxP_mem (szF per fi1) L x with h | h
          · rw [eM, h]; exact hpx x (by simp)
          · rw [eM]; exact hpx _ (List.mem_cons_of_mem _ h)
        have hMc : M ∉ co := by
          obtain ⟨e, he, ek⟩ := List.mem_map.1 hMk
          rw [← ek]; exact (hfi1 e he).2
        refine NewC_blk (fun t13 w14 ht13 h14 f14 s14 => ?_)
        refine StN_blk h14 rfl (Nat.le_of_ble_eq_true rfl) (fun w15 h15 f15 s15 => ?_)
        have h15 : Blk w15 t13 t_remset_pair (pairL M) := h15
        have f1215 : Fr No w12 w15 := f13.no (f14.new f15 (fun _ _ e => e) (fun y e => by omega))
        have F615 := F612.no f1215
        have s615 := F615.size
        have hp15 := hp12.keep f1215 id
        have hb15 := hb12.keep f1215 id
        have G15 := G12.keep f1215 (fun _ _ => id) (fun _ _ => id)
        have lt13 : m2 < t13 ∧ m3 < t13 := by have := f13.size; omega
        refine AnyC_plan T_ok mixed (planO [0,1,2,3,4,1005]) (fun w' => Blk w' p t_p_remset_Sets [.pointer (some ⟨b, 0, none⟩)] ∧ Blk w' b t_remset_Sets (setsL n per m1 m2 m3) ∧ Blk w' t13 t_remset_pair (pairL M)) (by kernel_rfl) (by kernel_rfl) ⟨hp15.keep (Fr.drew w15) id, hb15.keep (Fr.drew w15) id, h15.keep (Fr.drew w15) id⟩ (Kp ?_)
        refine LdS_of (fun w' hw => hw.1) rfl ?_
        refine LdS_of (fun w' hw => hw.2.1) rfl ?_
        refine LdSN_of (vs := pairL M) (fun w' hw => hw.2.2) rfl rfl ?_
        refine ⟨?_, trivial⟩
        refine DelC T_ok (kv := pairV) rfl keyP (G15.map2.keep (Fr.drew w15) id) M (fun w16 hM16 f16 s16 => ?_)
        have f16 := f16.drewL
        have hp16 := hp15.keep f16 (show ¬ p = m2 by omega)
        have hb16 := hb15.keep f16 n2
        have h16 := h15.keep f16 (show ¬ t13 = m2 by omega)
        refine Sd_intro ⟨hp16, hb16, h16⟩ ?_
        refine AnyC_plan T_ok mixed (planO [0,1,2,3,4,1005]) (fun w' => Blk w' p t_p_remset_Sets [.pointer (some ⟨b, 0, none⟩)] ∧ Blk w' b t_remset_Sets (setsL n per m1 m2 m3) ∧ Blk w' t13 t_remset_pair (pairL M)) (by kernel_rfl) (by kernel_rfl) ⟨hp16.keep (Fr.drew w16) id, hb16.keep (Fr.drew w16) id, h16.keep (Fr.drew w16) id⟩ (Kp ?_)
        refine LdS_of (fun w' hw => hw.1) rfl ?_
        refine LdS_of (fun w' hw => hw.2.1) rfl ?_
        refine LdSN_of (vs := pairL M) (fun w' hw => hw.2.2) rfl rfl ?_
        refine ⟨?_, trivial⟩
        have n8' : m3 ≠ m2 := fun e => n8 e.symm
        refine UpdC T_ok (kv := pairV) rfl keyP ((G15.map3.keep f16 n8').keep (Fr.drew w16) id) M (.bool true) (fun w17 hM17 f17 s17 => ?_)
        have f17 := f17.drewL
        refine Sd_intro ⟨hp16.keep f17 (show ¬ p = m3 by omega), hb16.keep f17 n3, h16.keep f17 (show ¬ t13 = m3 by omega)⟩ ?_
        have hput : putM (coM co) M (.bool true) = coM (co ++ [M]) := by
          have : idxM (coM co) M = none := by
            cases hh : idxM (coM co) M with
            | none => rfl
            | some i =>
              obtain ⟨v, h1, _⟩ := idx_some hh
              have := List.mem_of_getElem? h1
              obtain ⟨z, hz, ez⟩ := List.mem_map.1 this
              injection ez with ez _
              exact absurd (by rw [← ez]; exact hz) hMc
          unfold putM; rw [this]; simp [coM]
        rw [hput] at hM17
        rw [← del_fiM] at hM16
        have f1517 : Fr (fun x => x = m2 ∨ x = m3) w15 w17 := f16.trans f17 (fun _ _ e => .inl e) (fun _ _ e => .inr e)
        have G17 := G15.less (List.Sublist.refl _) (List.filter_sublist (p := fun e : FiE => !decide (e.k = M))) f1517 (fun x e => .inr e) (G15.map1.keep f1517 (fun e => by
          rcases e with e | e
          · exact n5 e
          · exact n6 e)) (hM16.keep f17 n8) hM17
        refine ⟨rfl, ⟨f, r, fi1, efi1, by omega, by omega, .inr ⟨by omega, x, L, hperm'.trans hpA, hsort', by rw [← eM]; exact G17⟩⟩, ?_, ?_⟩
        · exact (F06.trans F615 (H := fun x => x = m1 ∨ x = m2 ∨ x = m3 ∨ ∃ o, spGet sp k = some o ∧ x = o.g) (fun _ _ e => by rcases e with e | e | e; exact .inl e; exact .inr (.inl e); exact .inr (.inr (.inr e))) (fun _ _ e => e.elim)).trans f1517 (fun _ _ e => e) (fun _ _ e => by rcases e with e | e; exact .inr (.inl e); exact .inr (.inr (.inl e)))
        · exact (E06.trans F615 (H := fun x => x = m1 ∨ x = m2 ∨ x = m3) (fun _ _ e => by rcases e with e | e; exact .inl e; exact .inr (.inl e)) (fun _ _ e => e.elim)).trans f1517 (fun _ _ e => e) (fun _ _ e => .inr e)
  · have f69 : Fr No w6 w9 := f8.new f9 (fun _ _ e => e) (fun y e => by omega)
    obtain ⟨e, he, ex⟩ := List.mem_map.1 hx
    subst ex
    have hq9 := hq8.keep f9 (show ¬ q = it by omega)
    have hp9 := hp8.keep f9 (show ¬ p = it by omega)
    refine EntryC hI9 ?_
    refine NewC_blk (fun pp w10 hpp h10 f10 s10 => ?_)
    refine StN_blk h10 rfl (Nat.le_of_ble_eq_true rfl) (fun w11 h11 f11 s11 => ?_)
    have h11 : Blk w11 pp t_remset_pair (pairL e.k) := h11
    have f911 : Fr No w9 w11 := f10.new f11 (fun _ _ e => e) (fun y e => by omega)
    have hq11 := hq9.keep f911 id
    have hp11 := hp9.keep f911 id
    have hI11 := hI9.keep f911 id id
    have F11 := f69.no f911
    have own11 := own_keep (own_keepV own8 f9 (fun y hy e => by
      have h1 := own_ge own8 y hy
      have h2 := hI7.lt
      omega)) f911 (fun _ _ => id)
    have hlt : (delM (fiM fil) e.k).length < (fiM fil).length := len_del hx
    have hdel := flat_delK (F := fun e : FiE => if e.k.1 = k.1 then [e.k] else []) (fun e : FiE => e.k) (l := fil) (x := e) (by rw [← fiM_keys]; exact iter_nodup hI8) he
    have hdel : (homeK k.1 fil).Perm ((if e.k.1 = k.1 then [e.k] else []) ++ homeK k.1 (delFi fil e.k)) := hdel
    refine LdC_blk h11 rfl ?_
    refine LdC_blk hq11 rfl ?_
    refine Br_dec (fun g1 => ?_) (fun g1 => ?_)
    · have g1 : e.k.1 = k.1 := g1
      rw [if_pos g1] at hdel
      have hal4 : al.length + 1 ≤ 5 := by have := hperm.length_eq; rw [List.length_append, hdel.length_eq, List.length_append] at this; simp at this; omega
      refine LdN_blk (vs := pairL e.k) h11 rfl rfl ?_
      refine NewC_blk (fun qq w12 hqq h12 f12 s12 => ?_)
      have h12 : Blk w12 qq t_remset_pair (pairL e.k) := h12
      have own12 : w12.ownsRow w7.heap.size t_remset_pair 2 av al.length (pairsL al) := own_keep own11 f12 (fun _ _ => id)
      have s11' := F11.size
      have s12' := f12.size
      have s9' := f911.size
      refine ApL T_ok (base := w7.heap.size) (xs := pairsL al) (news := pairL e.k) rfl rfl rfl (by decide) own12 (by have := f8.size; have := (f7.size); have := hI8.lt; omega) h12 rfl rfl rfl (by omega) (show (al.length + 1) * 16 ≤ _ by omega) (fun v' w13 own13 f13 loc => ?_)
      have hne13 : ∀ y, av.ownBlock = some y → w7.heap.size ≤ y := fun y e => own_ge own12 y e
      refine ⟨_, _, (by rw [hm]; exact hlt), ?_, v', rfl, (F11.no f12).new f13 (fun _ _ e => e) (fun y e => by have := hne13 y e; omega), ?_, ?_, delM (fiM fil) e.k, some (e.k, .pointer (some ⟨e.f, 0, none⟩)), al ++ [e.k], delFi fil e.k, ?_, ?_, (del_fiM fil e.k).symm, List.filter_sublist.trans hsub, ?_, rfl⟩
      · exact ⟨rfl, rfl, rfl, rfl, trivial⟩
      · exact (hp11.keep f12 id).keep f13 (fun e => by have := hne13 p e; omega)
      · exact (hq11.keep f12 id).keep f13 (fun e => by have := hne13 q e; omega)
      · exact (hI11.keep f12 id id).keep f13 (fun e => by have := hne13 m2 e; omega) (fun e => by have := hne13 it e; omega)
      · rw [List.length_append, pairsL_app]; exact own13
      · rw [List.append_assoc]; exact (hdel.symm.append_left al).trans hperm
    · have g1 : ¬ e.k.1 = k.1 := g1
      rw [if_neg g1, List.nil_append] at hdel
      refine ⟨_, _, (by rw [hm]; exact hlt), ?_, av, rfl, F11, hp11, hq11, delM (fiM fil) e.k, some (e.k, .pointer (some ⟨e.f, 0, none⟩)), al, delFi fil e.k, hI11, own11, (del_fiM fil e.k).symm, List.filter_sublist.trans hsub, (hdel.symm.append_left al).trans hperm, rfl⟩
      exact ⟨rfl, rfl, rfl, rfl, trivial⟩
end Go.Proofs.YtdhbpklmkibmbaaGreat
