/- Layer 11 (remset): all the cards of a home. -/
import Derived.Test.YtfokdnmidfmddaaDoorRem6
namespace Go.Proofs.YtfokdnmidfmddaaDoor
open Go.Vc

def spF (hm : Int) (e : SpE) : List Int := if e.k.1 = hm then e.l else []
def fiF (hm per : Int) (e : FiE) : List Int := if e.k.1 = hm then (elems e.S per.toNat).map fun c => e.k.2 * per + c else []
def coF (hm per : Int) (k : Int × Int) : List Int := if k.1 = hm then (List.range per.toNat).map fun (c : Nat) => k.2 * per + (c : Int) else []
def cardsL (hm per : Int) (sp : List SpE) (fi : List FiE) (co : List (Int × Int)) : List Int := sp.flatMap (spF hm) ++ fi.flatMap (fiF hm per) ++ co.flatMap (coF hm per)
theorem elems_mem {S : Nat → Bool} : ∀ {m : Nat} {c : Int}, c ∈ elems S m → 0 ≤ c ∧ c < m ∧ S c.toNat = true := by
  intro m
  induction m with
  | zero => intro c h; cases h
  | succ m ih =>
    intro c h
    have h : c ∈ elems S m ++ if S m then [(m : Int)] else [] := h
    rcases List.mem_append.1 h with h | h
    · obtain ⟨a, b, d⟩ := ih h
      exact ⟨a, by omega, d⟩
    · cases e : S m with
      | false => rw [e] at h; simp at h
      | true =>
        rw [e] at h
        have h : c = (m : Int) := by simpa using h
        subst h
        exact ⟨by omega, by omega, by simpa using e⟩
/-- One of a list whose keys differ, and the rest. -/
theorem flat_del {α κ : Type} [DecidableEq κ] (key : α → κ) (F : α → List Int) {l : List α} {x : α} (nd : (l.map key).Nodup) (hx : x ∈ l) : (l.flatMap F).Perm (F x ++ (l.filter fun y => !decide (key y = key x)).flatMap F) := by
  induction l with
  | nil => cases hx
  | cons y l ih =>
    rw [List.map_cons, List.nodup_cons] at nd
    rcases List.mem_cons.1 hx with e | h
    · subst e
      have : (x :: l).filter (fun y => !decide (key y = key x)) = l := by
        rw [List.filter_cons, if_neg (by simp), List.filter_eq_self]
        intro z hz
        simp only [Bool.not_eq_true', decide_eq_false_iff_not]
        intro e2
        exact nd.1 (List.mem_map.2 ⟨z, hz, e2⟩)
      rw [this, List.flatMap_cons]
    · have hne : key y ≠ key x := fun e => nd.1 (List.mem_map.2 ⟨x, h, e.symm⟩)
      rw [List.filter_cons, if_pos (by simp [hne]), List.flatMap_cons, List.flatMap_cons]
      refine ((ih nd.2 h).append_left (F y)).trans ?_
      rw [← List.append_assoc, ← List.append_assoc]
      exact List.perm_append_comm.append_right _
theorem iter_nodup {κ : Type} {kv : κ → Value} {w : World} {b r : Nat} {m left : List (κ × Value)} {cur : Option (κ × Value)} (h : IterG kv w b r m left cur) : (left.map (·.1)).Nodup := by
  obtain ⟨_, es, clock, since, seen, c0, _, _, h3, _, _, _, _, _, _, h10, _⟩ := h
  exact h3.sublist (h10.map _)
theorem iter_sub {κ : Type} {kv : κ → Value} {w : World} {b r : Nat} {m left : List (κ × Value)} {cur : Option (κ × Value)} (h : IterG kv w b r m left cur) : left.Sublist m := by
  obtain ⟨_, es, clock, since, seen, c0, _, _, h3, _, _, _, _, _, _, h10, _⟩ := h
  exact h10
theorem len_del {l : List ((Int × Int) × Value)} {x : (Int × Int) × Value} (hx : x ∈ l) : (delM l x.1).length < l.length := by
  unfold delM
  exact List.length_filter_lt_length_iff_exists.2 ⟨x, hx, by simp⟩
def delFi (fi : List FiE) (k : Int × Int) : List FiE := fi.filter fun e => !decide (e.k = k)
def delCo (co : List (Int × Int)) (k : Int × Int) : List (Int × Int) := co.filter fun e => !decide (e = k)
theorem del_fiM (fi : List FiE) (k : Int × Int) : fiM (delFi fi k) = delM (fiM fi) k := by
  unfold fiM delFi delM
  rw [List.filter_map]; rfl
theorem del_coM (co : List (Int × Int)) (k : Int × Int) : coM (delCo co k) = delM (coM co) k := by
  unfold coM delCo delM
  rw [List.filter_map]; rfl
theorem spM_keys (sp : List SpE) : (spM sp).map (·.1) = sp.map (·.k) := by unfold spM; rw [List.map_map]; rfl
theorem fiM_keys (fi : List FiE) : (fiM fi).map (·.1) = fi.map (·.k) := by unfold fiM; rw [List.map_map]; rfl
theorem coM_keys (co : List (Int × Int)) : (coM co).map (·.1) = co := by unfold coM; rw [List.map_map]; show co.map id = co; simp
theorem ints_one (x : Int) : [Value.int .i64 x] = ints [x] := rfl
theorem own_snoc {w : World} {base : Nat} {v : Value} {l r : List Int} (h : w.ownsRow base t_int 1 v (l.length + r.length) (ints l ++ ints r)) : Own w base v (l ++ r) := by
  unfold Own
  rw [ints_append, List.length_append]; exact h

set_option maxHeartbeats 2000000 in
theorem Cards_spec {b m1 m2 m3 : Nat} {n per : Int} {sp : List SpE} {fi : List FiE} {co : List (Int × Int)} (hm : Int) (w : World) (h : SetsG w b m1 m2 m3 n per sp fi co) (hT : Tab64 w) (hp : 1 ≤ per) (hn : 1 ≤ n) (hnp : n * per ≤ 4194304) (hr : 0 ≤ hm ∧ hm < n)
    (hfi : ∀ e ∈ fi, 0 ≤ e.k.2 ∧ e.k.2 < n) (hco : ∀ k ∈ co, 0 ≤ k.2 ∧ k.2 < n) (hlen : (cardsL hm per sp fi co).length ≤ 1000000) :
    CallC Pr f_remset_Sets_Cards [.pointer (some ⟨b, 0, none⟩), .int .i64 hm] w (fun v w' => (∃ L : List Int, L.Perm (cardsL hm per sp fi co) ∧ Own w' w.heap.size v (L.mergeSort fun x y => decide (x ≤ y))) ∧ Fr No w w') := by
  have hper : per ≤ 4194304 := by have := Int.mul_le_mul_of_nonneg_right hn (show (0 : Int) ≤ per by omega); omega
  have hmul : ∀ s c : Int, 0 ≤ s → s < n → 0 ≤ c → c < per → 0 ≤ s * per ∧ s * per ≤ 4194304 ∧ IntKind.i64.wrap (IntKind.i64.wrap (s * per) + c) = s * per + c := fun s c h1 h2 h3 h4 => by
    have a1 : 0 ≤ s * per := Int.mul_nonneg h1 (by omega)
    have a2 : s * per ≤ n * per := Int.mul_le_mul_of_nonneg_right (by omega) (by omega)
    rw [wrap_i64 (show -9223372036854775808 ≤ s * per by omega) (by omega), wrap_i64 (by omega) (by omega)]
    exact ⟨a1, by omega, rfl⟩
  have hl : (cardsL hm per sp fi co).length = (sp.flatMap (spF hm)).length + (fi.flatMap (fiF hm per)).length + (co.flatMap (coF hm per)).length := by unfold cardsL; rw [List.length_append, List.length_append]
  obtain ⟨LS, eLS⟩ : ∃ L, L = sp.flatMap (spF hm) := ⟨_, rfl⟩
  obtain ⟨LF, eLF⟩ : ∃ L, L = fi.flatMap (fiF hm per) := ⟨_, rfl⟩
  obtain ⟨LC, eLC⟩ : ∃ L, L = co.flatMap (coF hm per) := ⟨_, rfl⟩
  have eL : cardsL hm per sp fi co = LS ++ LF ++ LC := by unfold cardsL; rw [eLS, eLF, eLC]
  rw [← eLS, ← eLF, ← eLC] at hl
  refine call_sound T_ok fun_remset_Sets_Cards rfl (by kernel_rfl) rfl (Kp ?_)
  refine CallC_intro (rregion_spec hm w h.tab) (fun v w1 ⟨hv, f1⟩ => ?_)
  rw [decide_eq_true hr] at hv
  subst hv
  have H1 := h.keep f1 (fun _ _ => id) (fun _ _ => id)
  have s1 := f1.size
  refine LdC_blk H1.tab rfl ?_
  refine RangeC T_ok rfl H1.map1 (fun it w2 hit hI2 f2 s2 => ?_)
  have rl := h.rest_lt
  have bl : b < w.heap.size := h.tab.lt
  have F2 := f1.no f2
  refine LoopC_intro (α := Value) (fun av => [(0, .pointer (some ⟨b, 0, none⟩)), (1, .int .i64 hm), (22, .pointer (some ⟨it, 0, none⟩)), (5, av)])
    (fun m av w8 => Fr No w w8 ∧ it < w8.heap.size ∧ ∃ left cur al spl, IterG pairV w8 m1 it (spM sp) left cur ∧ Own w8 w.heap.size av al ∧ (∀ y, av.ownBlock = some y → y ≠ it) ∧ left = spM spl ∧ spl.Sublist sp ∧ (al ++ spl.flatMap (spF hm)).Perm LS ∧ m = left.length)
    (spM sp).length (.slice none 0 0) ⟨rfl, rfl, rfl, rfl, trivial⟩ ⟨F2, by omega, _, none, [], sp, hI2, Own.nil _ _, (fun y e => by cases e), rfl, List.Sublist.refl _, by rw [eLS]; exact List.Perm.refl _, rfl⟩ (fun m av w8 hJ => Kp ?_)
  obtain ⟨F8, itl, left, cur, al, spl, hI8, own8, hne8, rfl, hsub, hperm, hm8⟩ := hJ
  have hal : al.length ≤ LS.length := by have := hperm.length_eq; rw [List.length_append] at this; omega
  refine NextC pairV_inj hI8 (fun hl0 => ?_) (fun x hx w9 hI9 f9 s9 => ?_)
  · -- the fine ones
    have hspl : spl = [] := by
      cases spl with
      | nil => rfl
      | cons x l => cases hl0
    subst hspl
    have hpS : al.Perm LS := by simpa using hperm
    clear hperm hsub hI8 hm8
    have H8 := h.keep F8 (fun _ _ => id) (fun _ _ => id)
    refine LdC_blk H8.tab rfl ?_
    refine RangeC T_ok rfl H8.map2 (fun it2 w10 hit2 hI10 f10 s10 => ?_)
    have F10 := F8.no f10
    have own10 := own8.keep f10 (fun _ _ => id)
    refine LoopC_intro (α := Value) (fun av => [(0, .pointer (some ⟨b, 0, none⟩)), (1, .int .i64 hm), (39, .pointer (some ⟨it2, 0, none⟩)), (5, av)])
      (fun m av w12 => Fr No w w12 ∧ it2 < w12.heap.size ∧ ∃ left cur al fil, IterG pairV w12 m2 it2 (fiM fi) left cur ∧ Own w12 w.heap.size av al ∧ (∀ y, av.ownBlock = some y → y ≠ it2) ∧ left = fiM fil ∧ fil.Sublist fi ∧ (al ++ fil.flatMap (fiF hm per)).Perm (LS ++ LF) ∧ m = left.length)
      (fiM fi).length av ⟨rfl, rfl, rfl, rfl, trivial⟩ ⟨F10, by omega, _, none, al, fi, hI10, own10, (fun y e => by have := own8.lt y e; omega), rfl, List.Sublist.refl _, by rw [eLF]; exact hpS.append_right _, rfl⟩ (fun m av2 w12 hJ => Kp ?_)
    clear hal own8 hne8 own10 hpS hI10
    obtain ⟨F12, it2l, left, cur, al, fil, hI12, own12, hne12, rfl, hsub, hperm, hm12⟩ := hJ
    have hal : al.length ≤ LS.length + LF.length := by have := hperm.length_eq; rw [List.length_append, List.length_append] at this; omega
    refine NextC pairV_inj hI12 (fun hl0 => ?_) (fun x hx w13 hI13 f13 s13 => ?_)
    · -- the coarse ones
      have hfil : fil = [] := by
        cases fil with
        | nil => rfl
        | cons x l => cases hl0
      subst hfil
      have hpS : al.Perm (LS ++ LF) := by simpa using hperm
      clear hperm hsub hI12 hm12
      have H12 := h.keep F12 (fun _ _ => id) (fun _ _ => id)
      refine LdC_blk H12.tab rfl ?_
      refine RangeC T_ok rfl H12.map3 (fun it3 w20 hit3 hI20 f20 s20 => ?_)
      have F20 := F12.no f20
      have own20 := own12.keep f20 (fun _ _ => id)
      refine LoopC_intro (α := Value) (fun av => [(0, .pointer (some ⟨b, 0, none⟩)), (1, .int .i64 hm), (73, .pointer (some ⟨it3, 0, none⟩)), (5, av)])
        (fun m av w22 => Fr No w w22 ∧ it3 < w22.heap.size ∧ ∃ left cur al col, IterG pairV w22 m3 it3 (coM co) left cur ∧ Own w22 w.heap.size av al ∧ (∀ y, av.ownBlock = some y → y ≠ it3) ∧ left = coM col ∧ col.Sublist co ∧ (al ++ col.flatMap (coF hm per)).Perm (LS ++ LF ++ LC) ∧ m = left.length)
        (coM co).length av2 ⟨rfl, rfl, rfl, rfl, trivial⟩ ⟨F20, by omega, _, none, al, co, hI20, own20, (fun y e => by have := own12.lt y e; omega), rfl, List.Sublist.refl _, by rw [eLC]; exact hpS.append_right _, rfl⟩ (fun m av3 w22 hJ => Kp ?_)
      clear hal own12 hne12 own20 hpS hI20
      obtain ⟨F22, it3l, left, cur, al, col, hI22, own22, hne22, rfl, hsub, hperm, hm22⟩ := hJ
      have hal : al.length ≤ LS.length + LF.length + LC.length := by have := hperm.length_eq; rw [List.length_append, List.length_append, List.length_append] at this; omega
      refine NextC pairV_inj hI22 (fun hl0 => ?_) (fun x hx w23 hI23 f23 s23 => ?_)
      · have hcol : col = [] := by
          cases col with
          | nil => rfl
          | cons x l => cases hl0
        subst hcol
        have hpS : al.Perm (LS ++ LF ++ LC) := by simpa using hperm
        refine CallC_intro (Sort_spec av3 al w22 own22 (by omega)) (fun v w24 ⟨hv, own24, f24⟩ => ?_)
        subst hv
        refine ⟨⟨al, by rw [eL]; exact hpS, own24⟩, F22.new f24 (fun _ _ e => e) (fun y e => ?_)⟩
        have := own22.ge y e
        omega
      · have F23 := F22.new f23 (fun _ _ e => e) (fun y e => by omega)
        obtain ⟨e, he, ex⟩ := List.mem_map.1 hx
        subst ex
        have own23 := own_keepV own22 f23 (fun y hy e2 => hne22 y hy e2)
        refine EntryC hI23 ?_
        refine NewC_blk (fun pp w24 hpp h24 f24 s24 => ?_)
        refine StN_blk h24 rfl (Nat.le_of_ble_eq_true rfl) (fun w25 h25 f25 s25 => ?_)
        have h25 : Blk w25 pp t_remset_pair (pairL e) := h25
        have f235 : Fr No w23 w25 := f24.new f25 (fun _ _ e => e) (fun y e => by omega)
        have hI25 := hI23.keep f235 id id
        have F25 := F23.no f235
        have own25 : Own w25 w.heap.size av3 al := own_keepV own23 f235 (fun _ _ => id)
        have lt25 : (delM (coM col) e).length < (coM col).length := len_del hx
        have hdel := flat_del (key := fun k : Int × Int => k) (coF hm per) (l := col) (x := e) (by simpa [coM_keys] using iter_nodup hI22) he
        have hep := hco e (hsub.subset he)
        have hpp2 : w.heap.size ≤ pp := by have := F23.size; omega
        have s235 := f235.size
        refine LdC_blk h25 rfl ?_
        refine Br_dec (fun g1 => ?_) (fun g1 => ?_)
        · have g1 : e.1 = hm := g1
          have hF : coF hm per e = (List.range per.toNat).map fun (c : Nat) => e.2 * per + (c : Int) := by unfold coF; rw [if_pos g1]
          have hnew : al.length + per.toNat ≤ 1000000 := by
            have := hperm.length_eq
            rw [List.length_append, hdel.length_eq, List.length_append, hF, List.length_map, List.length_range, List.length_append, List.length_append] at this
            omega
          have hb25 := h.tab.keep F25 id
          refine LdC_blk hb25 rfl ?_
          refine LoopC_intro (α := Int × Value) (fun x => [(0, .pointer (some ⟨b, 0, none⟩)), (1, .int .i64 hm), (73, .pointer (some ⟨it3, 0, none⟩)), (12, .pointer (some ⟨pp, 0, none⟩)), (85, .int .i64 per), (86, .int .i64 x.1), (5, x.2)])
            (fun m x w26 => Fr No w w26 ∧ w25.heap.size ≤ w26.heap.size ∧ IterG pairV w26 m3 it3 (coM co) (delM (coM col) e) (some (e, .bool true)) ∧ Blk w26 pp t_remset_pair (pairL e) ∧ 0 ≤ x.1 ∧ x.1 ≤ per ∧ Own w26 w.heap.size x.2 (al ++ (List.range x.1.toNat).map fun (c : Nat) => e.2 * per + (c : Int)) ∧ (∀ y, x.2.ownBlock = some y → y ≠ it3 ∧ y ≠ pp) ∧ m = (per - x.1).toNat)
            per.toNat (0, av3) ⟨rfl, rfl, rfl, rfl, rfl, rfl, rfl, trivial⟩ ⟨F25, Nat.le_refl _, hI25, h25, Int.le_refl _, (show (0 : Int) ≤ per by omega), ?_, (fun y hy => ⟨hne22 y hy, by have := own23.lt y hy; omega⟩), (show per.toNat = (per - 0).toNat by omega)⟩ (fun m x w26 hJ => Kp ?_)
          · have : al ++ (List.range (0 : Int).toNat).map (fun (c : Nat) => e.2 * per + (c : Int)) = al := by simp
            show Own w25 w.heap.size av3 (al ++ (List.range (0 : Int).toNat).map fun (c : Nat) => e.2 * per + (c : Int))
            rw [this]; exact own25
          obtain ⟨i, av4⟩ := x
          obtain ⟨F26, s26, hI26, h26, i0, i1, own26, hne26, hm26⟩ := hJ
          have i0 : 0 ≤ i := i0
          have i1 : i ≤ per := i1
          refine Br_dec (fun g2 => ?_) (fun g2 => ?_)
          · have g2 : i < per := g2
            obtain ⟨_, _, ew⟩ := hmul e.2 i hep.1 hep.2 i0 g2
            have hb26 := h.tab.keep F26 id
            obtain ⟨al2, eal2⟩ : ∃ l, l = al ++ (List.range i.toNat).map (fun (c : Nat) => e.2 * per + (c : Int)) := ⟨_, rfl⟩
            have own26 : Own w26 w.heap.size av4 al2 := by rw [eal2]; exact own26
            have hl2 : al2.length < 1000000 := by rw [eal2, List.length_append, List.length_map, List.length_range]; omega
            refine AnyC_plan T_ok mixed (planO [0,1,2,3,4,5,6,7,8,9,1010,1011,12]) (fun w' => Blk w' b t_remset_Sets (setsL n per m1 m2 m3) ∧ Blk w' pp t_remset_pair (pairL e)) (by kernel_rfl) (by kernel_rfl) ⟨hb26.keep (Fr.drew w26) id, h26.keep (Fr.drew w26) id⟩ (Kp ?_)
            refine LdS_of (fun w' hw => hw.2) rfl ?_
            refine LdS_of (fun w' hw => hw.1) rfl ?_
            refine ⟨?_, trivial⟩
            refine NewC_blk (fun y w27 hy h27 f27 s27 => ?_)
            have h27 : Blk w27 y t_int (ints [e.2 * per + i]) := by rw [← ints_one, ← ew]; exact h27
            have f27 := f27.drewL
            have hb27 := hb26.keep f27 id
            have hp27 := h26.keep f27 id
            refine Sd_intro ⟨hb27, hp27⟩ ?_
            refine ⟨?_, trivial⟩
            have own27 : w27.ownsRow w.heap.size t_int 1 av4 al2.length (ints al2) := own_keepV own26 f27 (fun _ _ => id)
            have F27 := F26.no f27
            have s27' := f27.size
            refine ApL T_ok (base := w.heap.size) (xs := ints al2) (news := ints [e.2 * per + i]) rfl rfl rfl (by decide) own27 F27.size h27 rfl rfl rfl (by omega) (show (al2.length + 1) * 8 ≤ _ by omega) (fun v' w28 own28 f28 loc => ?_)
            have hge : ∀ y, av4.ownBlock = some y → w.heap.size ≤ y := fun y e => own26.ge y e
            have s28 := f28.size
            have F28 : Fr No w w28 := F27.new f28 (fun _ _ e => e) (fun y e => by have := hge y e; omega)
            have hb28 : Blk w28 b t_remset_Sets (setsL n per m1 m2 m3) := h.tab.keep F28 id
            have hp28 := hp27.keep f28 (fun e => (hne26 pp e).2 rfl)
            refine Sd_intro ⟨hb28, hp28⟩ ?_
            refine ⟨(per - (i + 1)).toNat, _, by omega, ?_, (i + 1, v'), rfl, F28, by omega, (hI26.keep f27 id id).keep f28 (fun e => by have := hge m3 e; have := rl m3 (by simp [restB]); omega) (fun e => (hne26 it3 e).1 rfl), hp28, (show 0 ≤ i + 1 by omega), (show i + 1 ≤ per by omega), ?_, fun y hy => ?_, rfl⟩
            · exact ⟨rfl, rfl, rfl, rfl, rfl, look_int rfl (wrap_i64 (by omega) (by omega)), rfl, trivial⟩
            · have hh : al ++ (List.range (i + 1).toNat).map (fun (c : Nat) => e.2 * per + (c : Int)) = al2 ++ [e.2 * per + i] := by
                rw [eal2, show (i + 1).toNat = i.toNat + 1 by omega, List.range_succ, List.map_append, ← List.append_assoc]
                congr 1
                show [e.2 * per + ((i.toNat : Nat) : Int)] = _
                rw [Int.toNat_of_nonneg i0]
              show Own w28 w.heap.size v' (al ++ (List.range (i + 1).toNat).map fun (c : Nat) => e.2 * per + (c : Int))
              rw [hh]
              exact own_snoc own28
            · rcases loc with e2 | e2
              · exact hne26 y (by rw [← e2]; exact hy)
              · have hy : v'.ownBlock = some y := hy
                rw [e2] at hy
                injection hy with hy
                have := hI26.lt
                have := h26.lt
                omega
          · have g2 : ¬ i < per := g2
            have ei : i = per := by omega
            subst ei
            refine ⟨_, _, (by rw [hm22]; exact lt25), ?_, av4, rfl, F26, by omega, delM (coM col) e, some (e, .bool true), _, delCo col e, hI26, own26, fun y hy => (hne26 y hy).1, (del_coM col e).symm, List.filter_sublist.trans hsub, ?_, rfl⟩
            · exact ⟨rfl, rfl, rfl, rfl, trivial⟩
            · rw [← hF, List.append_assoc]
              exact ((hdel.symm.append_left al).trans hperm)
        · have g1 : ¬ e.1 = hm := g1
          have hF : coF hm per e = [] := by unfold coF; rw [if_neg g1]
          rw [hF, List.nil_append] at hdel
          refine ⟨_, _, (by rw [hm22]; exact lt25), ?_, av3, rfl, F25, by omega, delM (coM col) e, some (e, .bool true), al, delCo col e, hI25, own25, hne22, (del_coM col e).symm, List.filter_sublist.trans hsub, (hdel.symm.append_left al).trans hperm, rfl⟩
          exact ⟨rfl, rfl, rfl, rfl, trivial⟩
    · have F13 := F12.new f13 (fun _ _ e => e) (fun y e => by omega)
      obtain ⟨e, he, ex⟩ := List.mem_map.1 hx
      subst ex
      have own13 := own_keepV own12 f13 (fun y hy e2 => hne12 y hy e2)
      refine EntryC hI13 ?_
      refine NewC_blk (fun pp w14 hpp h14 f14 s14 => ?_)
      refine StN_blk h14 rfl (Nat.le_of_ble_eq_true rfl) (fun w15 h15 f15 s15 => ?_)
      have h15 : Blk w15 pp t_remset_pair (pairL e.k) := h15
      have f135 : Fr No w13 w15 := f14.new f15 (fun _ _ e => e) (fun y e => by omega)
      have hI15 := hI13.keep f135 id id
      have F15 := F13.no f135
      have own15 : Own w15 w.heap.size av2 al := own_keepV own13 f135 (fun _ _ => id)
      have lt15 : (delM (fiM fil) e.k).length < (fiM fil).length := len_del hx
      have hdel := flat_del (key := fun e : FiE => e.k) (fiF hm per) (l := fil) (x := e) (by rw [← fiM_keys]; exact iter_nodup hI12) he
      have hep := hfi e (hsub.subset he)
      have hpp2 : w.heap.size ≤ pp := by have := F13.size; omega
      have s135 := f135.size
      refine LdC_blk h15 rfl ?_
      refine Br_dec (fun g1 => ?_) (fun g1 => ?_)
      · have g1 : e.k.1 = hm := g1
        have hF : fiF hm per e = (elems e.S per.toNat).map fun c => e.k.2 * per + c := by unfold fiF; rw [if_pos g1]
        have hnew : al.length + (elems e.S per.toNat).length ≤ 1000000 := by
          have := hperm.length_eq
          rw [List.length_append, hdel.length_eq, List.length_append, hF, List.length_map, List.length_append] at this
          omega
        have hS := h.sets e (hsub.subset he)
        refine CallC_intro (List_spec w15 (hS.keep F15 id id) (hT.keep F15 id)) (fun lv w16 ⟨ownL, f16⟩ => ?_)
        obtain ⟨la, lc, elv⟩ := own_slice ownL
        subst elv
        have F16 := F15.no f16
        have s16 := f16.size
        have hmem : ∀ c ∈ elems e.S per.toNat, 0 ≤ c ∧ c < per := fun c hc => by have := elems_mem hc; omega
        obtain ⟨cs, ecs⟩ : ∃ cs, cs = elems e.S per.toNat := ⟨_, rfl⟩
        rw [← ecs] at hnew ownL hmem
        have ownL : Own w16 w15.heap.size (.slice la cs.length lc) cs := ownL
        have lenL : (elems e.S per.toNat).length = cs.length := by rw [ecs]
        rw [lenL]
        refine LoopC_intro (α := Int × Value) (fun x => [(0, .pointer (some ⟨b, 0, none⟩)), (1, .int .i64 hm), (39, .pointer (some ⟨it2, 0, none⟩)), (8, .pointer (some ⟨pp, 0, none⟩)), (50, .slice la cs.length lc), (51, .int .i64 cs.length), (52, .int .i64 x.1), (5, x.2)])
          (fun m x w26 => Fr No w w26 ∧ w16.heap.size ≤ w26.heap.size ∧ IterG pairV w26 m2 it2 (fiM fi) (delM (fiM fil) e.k) (some (e.k, .pointer (some ⟨e.f, 0, none⟩))) ∧ Blk w26 pp t_remset_pair (pairL e.k) ∧ Own w26 w15.heap.size (.slice la cs.length lc) cs ∧ 0 ≤ x.1 ∧ x.1 ≤ cs.length ∧ Own w26 w.heap.size x.2 (al ++ (cs.take x.1.toNat).map fun c => e.k.2 * per + c) ∧ (∀ y, x.2.ownBlock = some y → y ≠ it2 ∧ y ≠ pp ∧ (Value.slice la cs.length lc).ownBlock ≠ some y) ∧ m = (cs.length - x.1).toNat)
          cs.length (0, av2) ⟨rfl, rfl, rfl, rfl, rfl, rfl, rfl, rfl, trivial⟩ ⟨F16, Nat.le_refl _, hI15.keep f16 id id, h15.keep f16 id, ownL, Int.le_refl _, (show (0 : Int) ≤ cs.length by omega), ?_, (fun y hy => ?_), (show cs.length = ((cs.length : Int) - 0).toNat by omega)⟩ (fun m x w26 hJ => Kp ?_)
        · have : al ++ (cs.take (0 : Int).toNat).map (fun c => e.k.2 * per + c) = al := by simp
          show Own w16 w.heap.size av2 (al ++ (cs.take (0 : Int).toNat).map fun c => e.k.2 * per + c)
          rw [this]; exact own_keepV own15 f16 (fun _ _ => id)
        · have h1 := own13.lt y hy
          have h2 := own15.lt y hy
          refine ⟨hne12 y hy, by omega, fun e2 => ?_⟩
          have := ownL.ge y e2
          omega
        obtain ⟨i, av4⟩ := x
        obtain ⟨F26, s26, hI26, h26, ownL26, i0, i1, own26, hne26, hm26⟩ := hJ
        have i0 : 0 ≤ i := i0
        have i1 : i ≤ cs.length := i1
        refine Br_dec (fun g2 => ?_) (fun g2 => ?_)
        · have g2 : i < cs.length := g2
          have hi : i.toNat < cs.length := by omega
          obtain ⟨c, ec⟩ : ∃ c, c = cs[i.toNat] := ⟨_, rfl⟩
          have hc0 := hmem c (by rw [ec]; exact List.getElem_mem hi)
          obtain ⟨_, _, ew⟩ := hmul e.k.2 c hep.1 hep.2 hc0.1 hc0.2
          have hb26 := h.tab.keep F26 id
          obtain ⟨ad, rfl, hcell⟩ := ownL26.ints.cell hi
          refine Sd_intro (show 0 ≤ i ∧ i < (cs.length : Int) by omega) ?_
          refine LdC_intro (v := .int .i64 c) (by rw [Nat.mul_one, ec]; exact hcell) ?_
          obtain ⟨al2, eal2⟩ : ∃ l, l = al ++ (cs.take i.toNat).map (fun c => e.k.2 * per + c) := ⟨_, rfl⟩
          have own26 : Own w26 w.heap.size av4 al2 := by rw [eal2]; exact own26
          have hl2 : al2.length < 1000000 := by rw [eal2, List.length_append, List.length_map, List.length_take]; omega
          refine AnyC_plan T_ok mixed (planO [0,1,2,3,4,5,6,7,8,9,1010,1011,12]) (fun w' => Blk w' b t_remset_Sets (setsL n per m1 m2 m3) ∧ Blk w' pp t_remset_pair (pairL e.k)) (by kernel_rfl) (by kernel_rfl) ⟨hb26.keep (Fr.drew w26) id, h26.keep (Fr.drew w26) id⟩ (Kp ?_)
          refine LdS_of (fun w' hw => hw.2) rfl ?_
          refine LdS_of (fun w' hw => hw.1) rfl ?_
          refine ⟨?_, trivial⟩
          refine NewC_blk (fun y w27 hy h27 f27 s27 => ?_)
          have h27 : Blk w27 y t_int (ints [e.k.2 * per + c]) := by rw [← ints_one, ← ew]; exact h27
          have f27 := f27.drewL
          have hb27 := hb26.keep f27 id
          have hp27 := h26.keep f27 id
          refine Sd_intro ⟨hb27, hp27⟩ ?_
          refine ⟨?_, trivial⟩
          have own27 : w27.ownsRow w.heap.size t_int 1 av4 al2.length (ints al2) := own_keepV own26 f27 (fun _ _ => id)
          have F27 := F26.no f27
          have s27' := f27.size
          refine ApL T_ok (base := w.heap.size) (xs := ints al2) (news := ints [e.k.2 * per + c]) rfl rfl rfl (by decide) own27 F27.size h27 rfl rfl rfl (by omega) (show (al2.length + 1) * 8 ≤ _ by omega) (fun v' w28 own28 f28 loc => ?_)
          have hge : ∀ y, av4.ownBlock = some y → w.heap.size ≤ y := fun y e => own26.ge y e
          have s28 := f28.size
          have F28 : Fr No w w28 := F27.new f28 (fun _ _ e => e) (fun y e => by have := hge y e; omega)
          have hb28 : Blk w28 b t_remset_Sets (setsL n per m1 m2 m3) := h.tab.keep F28 id
          have hp28 := hp27.keep f28 (fun e => (hne26 pp e).2.1 rfl)
          refine Sd_intro ⟨hb28, hp28⟩ ?_
          refine ⟨(cs.length - (i + 1)).toNat, _, by omega, ?_, (i + 1, v'), rfl, F28, by omega, (hI26.keep f27 id id).keep f28 (fun e => by have := hge m2 e; have := rl m2 (by simp [restB]); omega) (fun e => (hne26 it2 e).1 rfl), hp28, own_keepV (ownL26.keep f27 (fun _ _ => id)) f28 (fun y h1 h2 => (hne26 y h2).2.2 h1), (show 0 ≤ i + 1 by omega), (show i + 1 ≤ cs.length by omega), ?_, fun y hy => ?_, rfl⟩
          · exact ⟨rfl, rfl, rfl, rfl, rfl, rfl, look_int rfl (wrap_i64 (by omega) (by omega)), rfl, trivial⟩
          · have hh : al ++ (cs.take (i + 1).toNat).map (fun c => e.k.2 * per + c) = al2 ++ [e.k.2 * per + c] := by
              rw [eal2, show (i + 1).toNat = i.toNat + 1 by omega, List.take_add_one, List.getElem?_eq_getElem hi, List.map_append, ← List.append_assoc, ← ec]
              rfl
            show Own w28 w.heap.size v' (al ++ (cs.take (i + 1).toNat).map fun c => e.k.2 * per + c)
            rw [hh]
            exact own_snoc own28
          · rcases loc with e2 | e2
            · exact hne26 y (by rw [← e2]; exact hy)
            · have hy : v'.ownBlock = some y := hy
              rw [e2] at hy
              injection hy with hy
              have := hI26.lt
              have := h26.lt
              refine ⟨by omega, by omega, fun e3 => ?_⟩
              have := ownL26.lt y e3
              omega
        · have g2 : ¬ i < cs.length := g2
          have ei : i = cs.length := by omega
          subst ei
          have own26 : Own w26 w.heap.size av4 (al ++ cs.map fun c => e.k.2 * per + c) := by rw [List.take_of_length_le (by omega)] at own26; exact own26
          refine ⟨_, _, (by rw [hm12]; exact lt15), ?_, av4, rfl, F26, by omega, delM (fiM fil) e.k, some (e.k, .pointer (some ⟨e.f, 0, none⟩)), _, delFi fil e.k, hI26, own26, fun y hy => (hne26 y hy).1, (del_fiM fil e.k).symm, List.filter_sublist.trans hsub, ?_, rfl⟩
          · exact ⟨rfl, rfl, rfl, rfl, trivial⟩
          · rw [ecs, ← hF, List.append_assoc]
            exact ((hdel.symm.append_left al).trans hperm)
      · have g1 : ¬ e.k.1 = hm := g1
        have hF : fiF hm per e = [] := by unfold fiF; rw [if_neg g1]
        rw [hF, List.nil_append] at hdel
        refine ⟨_, _, (by rw [hm12]; exact lt15), ?_, av2, rfl, F15, by omega, delM (fiM fil) e.k, some (e.k, .pointer (some ⟨e.f, 0, none⟩)), al, delFi fil e.k, hI15, own15, hne12, (del_fiM fil e.k).symm, List.filter_sublist.trans hsub, (hdel.symm.append_left al).trans hperm, rfl⟩
        exact ⟨rfl, rfl, rfl, rfl, trivial⟩
  · have F9 := F8.new f9 (fun _ _ e => e) (fun y e => by omega)
    obtain ⟨e, he, ex⟩ := List.mem_map.1 hx
    subst ex
    have own9 := own_keepV own8 f9 (fun y hy e2 => hne8 y hy e2)
    refine EntryC hI9 ?_
    refine NewC_blk (fun pp w14 hpp h14 f14 s14 => ?_)
    refine StN_blk h14 rfl (Nat.le_of_ble_eq_true rfl) (fun w15 h15 f15 s15 => ?_)
    have h15 : Blk w15 pp t_remset_pair (pairL e.k) := h15
    have f135 : Fr No w9 w15 := f14.new f15 (fun _ _ e => e) (fun y e => by omega)
    have hI15 := hI9.keep f135 id id
    have F15 := F9.no f135
    have own15 : Own w15 w.heap.size av al := own_keepV own9 f135 (fun _ _ => id)
    have lt15 : (delM (spM spl) e.k).length < (spM spl).length := len_del hx
    have hdel := flat_del (key := fun e : SpE => e.k) (spF hm) (l := spl) (x := e) (by rw [← spM_keys]; exact iter_nodup hI8) he
    have hpp2 : w.heap.size ≤ pp := by have := F9.size; omega
    have s135 := f135.size
    refine LdC_blk h15 rfl ?_
    refine Br_dec (fun g1 => ?_) (fun g1 => ?_)
    · have g1 : e.k.1 = hm := g1
      have hF : spF hm e = e.l := by unfold spF; rw [if_pos g1]
      have hnew : al.length + e.l.length ≤ 1000000 := by
        have := hperm.length_eq
        rw [List.length_append, hdel.length_eq, List.length_append, hF] at this
        omega
      have hR : Own w15 0 (spV e) e.l := own_keepV (h.rows e (hsub.subset he)) F15 (fun _ _ => id)
      have eg : e.g < w.heap.size := spV_lt (h.rows e (hsub.subset he))
      rcases own_cases hR with ⟨h0, _⟩ | ⟨g, cap, cur, hv, _, hbg, ht, _⟩
      · unfold spV at h0; cases h0
      have hg : g = e.g := by
        unfold spV at hv
        injection hv with hv
        injection hv with hv
        injection hv with hv
        exact hv.symm
      subst hg
      have own15' : w15.ownsRow w.heap.size t_int 1 av al.length (ints al) := own15
      refine ApL T_ok (base := w.heap.size) (xs := ints al) (news := ints e.l) (m := e.l.length) rfl rfl rfl (by decide) own15' F15.size hbg (by rw [List.drop_zero]; exact ht) (by rw [ints_len]; exact (Nat.mul_one _).symm) (by unfold ints; rw [List.all_map, List.all_eq_true]; intro x _; rfl) (by omega) (show (al.length + e.l.length) * 8 ≤ _ by omega) (fun v' w28 own28 f28 loc => ?_)
      have hge : ∀ y, av.ownBlock = some y → w.heap.size ≤ y := fun y e => own15.ge y e
      have F28 : Fr No w w28 := F15.new f28 (fun _ _ e => e) (fun y e => by have := hge y e; omega)
      have s28 := f28.size
      refine ⟨_, _, (by rw [hm8]; exact lt15), ?_, v', rfl, F28, by omega, delM (spM spl) e.k, some (e.k, spV e), al ++ e.l, delSp spl e.k, hI15.keep f28 (fun e => by have := hge m1 e; have := rl m1 (by simp [restB]); omega) (fun e => hne8 it e rfl), own_snoc own28, fun y hy => ?_, (del_spM spl e.k).symm, List.filter_sublist.trans hsub, ?_, rfl⟩
      · exact ⟨rfl, rfl, rfl, rfl, trivial⟩
      · rcases loc with e2 | e2
        · exact hne8 y (by rw [← e2]; exact hy)
        · rw [e2] at hy
          injection hy with hy
          have := hI15.lt
          omega
      · rw [← hF, List.append_assoc]
        exact ((hdel.symm.append_left al).trans hperm)
    · have g1 : ¬ e.k.1 = hm := g1
      have hF : spF hm e = [] := by unfold spF; rw [if_neg g1]
      rw [hF, List.nil_append] at hdel
      refine ⟨_, _, (by rw [hm8]; exact lt15), ?_, av, rfl, F15, by omega, delM (spM spl) e.k, some (e.k, spV e), al, delSp spl e.k, hI15, own15, hne8, (del_spM spl e.k).symm, List.filter_sublist.trans hsub, (hdel.symm.append_left al).trans hperm, rfl⟩
      exact ⟨rfl, rfl, rfl, rfl, trivial⟩
end Go.Proofs.YtfokdnmidfmddaaDoor
