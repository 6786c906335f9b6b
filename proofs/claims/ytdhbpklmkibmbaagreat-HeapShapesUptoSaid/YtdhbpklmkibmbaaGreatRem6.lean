/- Layer 11 (remset): Way and Has of a fine source; the cards of a home that has one fine source alone. -/
import Derived.Test.YtdhbpklmkibmbaaGreatRem1
import Derived.Test.YtdhbpklmkibmbaaGreatSlSort
import Derived.Test.YtdhbpklmkibmbaaGreatSortW
namespace Go.Proofs.YtdhbpklmkibmbaaGreat
open Go.Vc

theorem fi_get {fi : List FiE} {e : FiE} (nd : ((fiM fi).map (·.1)).Nodup) (h : e ∈ fi) : getM (fiM fi) e.k = some (.pointer (some ⟨e.f, 0, none⟩)) := (getM_some nd).2 (List.mem_map.2 ⟨e, h, rfl⟩)
theorem Has_fine {b m1 m2 m3 : Nat} {n per : Int} {sp : List SpE} {fi : List FiE} {co : List (Int × Int)} (hm c : Int) (e : FiE) (w : World) (h : SetsG w b m1 m2 m3 n per sp fi co) (hp : 1 ≤ per) (hn : 1 ≤ n) (hnp : n * per ≤ 4194304) (hr : 0 ≤ hm ∧ hm < n ∧ 0 ≤ c ∧ c < n * per)
    (he : e ∈ fi) (ek : e.k = (hm, c / per)) (hco : getM (coM co) (hm, c / per) = none) (hsp : getM (spM sp) (hm, c / per) = none) :
    CallC Pr f_remset_Sets_Has [.pointer (some ⟨b, 0, none⟩), .int .i64 hm, .int .i64 c] w (fun v w' => v = .bool (e.S (c % per).toNat) ∧ Fr No w w') := by
  refine call_sound T_ok fun_remset_Sets_Has rfl (by kernel_rfl) rfl (Kp ?_)
  refine CallC_intro (rkey_spec hm c w h.tab hp hn hnp) (fun v w1 ⟨hv, f1⟩ => ?_)
  have hv : v = .tuple #[pairV (hm, c / per), .int .i64 0] := by
    rcases hv with ⟨_, _, _, _, hv⟩ | ⟨hn', _⟩
    · exact hv
    · exact absurd hr hn'
  subst hv
  refine NewC_blk (fun p w2 hp2 h2 f2 s2 => ?_)
  refine StN_blk h2 rfl (Nat.le_of_ble_eq_true rfl) (fun w3 h3 f3 s3 => ?_)
  have h3 : Blk w3 p t_remset_pair (pairL (hm, c / per)) := h3
  have f13 : Fr No w1 w3 := f2.new f3 (fun _ _ e => e) (fun k e => by omega)
  have F3 := f1.no f13
  have H3 := h.keep F3 (fun _ _ => id) (fun _ _ => id)
  obtain ⟨k, hk⟩ : ∃ k, k = (hm, c / per) := ⟨_, rfl⟩
  rw [← hk] at h3 hco ek hsp
  have em : c.tmod per = c % per := Int.tmod_eq_emod_of_nonneg hr.2.2.1
  have e0 := Int.emod_nonneg c (show per ≠ 0 by omega)
  have ehas : has e.S (c.tmod per) = e.S (c % per).toNat := by
    unfold has
    rw [em, decide_eq_true e0]; rfl
  refine AnyC_plan T_ok mixed (planO [0,1,2,3,4,1005,6,7,8,9,10,11,13,14,15,16,17,18,1012,1019,20,21,22,23,24,25,26,28,1027,1029,30,31]) (Old w3) (by kernel_rfl) (by kernel_rfl) (fun _ _ => rfl) (Kp ?_)
  refine LdS_blk H3.tab rfl ?_
  refine LdSN_blk (vs := pairL k) h3 rfl rfl ?_
  refine ⟨?_, trivial⟩
  refine LookN T_ok (kv := pairV) rfl keyP zv_bool (H3.map3.keep (Fr.drew w3) id) k (v := .bool false) (by rw [hco]; rfl) ?_
  refine Sd_intro (fun _ _ => rfl) ?_
  refine LdS_blk H3.tab rfl ?_
  refine LdSN_blk (vs := pairL k) h3 rfl rfl ?_
  refine LdS_blk H3.tab rfl ?_
  refine Sd_intro (by omega) ?_
  refine ⟨?_, trivial⟩
  refine LookN T_ok (kv := pairV) rfl keyP zv_p_bits_Set (H3.map2.keep (Fr.drew w3) id) k (v := .pointer (some ⟨e.f, 0, none⟩)) (by rw [← ek, fi_get h.map2.nodup he]; rfl) ?_
  refine Sd_intro (fun _ _ => rfl) ?_
  refine ⟨?_, trivial⟩
  refine CallC_intro (Has_spec (c.tmod per) w3.drew ((H3.sets e he).keep (Fr.drew w3) id id)) (fun v w4 ⟨hv, f4⟩ => ?_)
  rw [ehas] at hv
  subst hv
  have f4 := f4.drewL
  refine Sd_intro f4.old ?_
  refine Br_intro (fun hb => ?_) (fun hb => ?_)
  · refine ⟨?_, trivial⟩
    refine ⟨?_, trivial⟩
    exact ⟨by rw [hb]; rfl, F3.no f4⟩
  · refine LdS_blk H3.tab rfl ?_
    refine LdSN_blk (vs := pairL k) h3 rfl rfl ?_
    refine ⟨?_, trivial⟩
    refine LookN T_ok (kv := pairV) rfl keyP zv_s_int (H3.map1.keep f4 id) k (v := .slice none 0 0) (by rw [hsp]; rfl) ?_
    refine Sd_intro f4.old ?_
    refine ⟨?_, trivial⟩
    refine CallC_intro (Contains_spec (.slice none 0 0) [] c w4 ⟨none, 0, rfl, .inl rfl⟩ (by decide)) (fun v w5 ⟨hv, f5⟩ => ?_)
    subst hv
    refine Sd_intro (f4.no f5).old ?_
    exact ⟨by rw [hb]; rfl, (F3.no f4).no f5⟩
end Go.Proofs.YtdhbpklmkibmbaaGreat
/- Layer 11 (remset): all the cards of a home. -/
namespace Go.Proofs.YtdhbpklmkibmbaaGreat
open Go.Vc

def spF (hm : Int) (e : SpE) : List Int := if e.k.1 = hm then e.l else []
def fiF (hm per : Int) (e : FiE) : List Int := if e.k.1 = hm then (elems e.S per.toNat).map fun c => e.k.2 * per + c else []
def coF (hm per : Int) (k : Int × Int) : List Int := if k.1 = hm then (List.range per.toNat).map fun (c : Nat) => k.2 * per + (c : Int) else []
def cardsL (hm per : Int) (sp : List SpE) (fi : List FiE) (co : List (Int × Int)) : List Int := sp.flatMap (spF hm) ++ fi.flatMap (fiF hm per) ++ co.flatMap (coF hm per)
theorem elems_mem {S : Nat → Bool} : ∀ {m : Nat} {c : Int}, c ∈ elems S m → 0 ≤ c ∧ c < m ∧ S c.toNat = true := by
  intro m
  induction m with
  | zero => intro c h; cases h
  | succ m ih =>
    intro c h
    have h : c ∈ elems S m ++ if S m then [(m : Int)] else [] := h
    rcases List.mem_append.1 h with h | h
    · obtain ⟨a, b, d⟩ := ih h
      exact ⟨a, by omega, d⟩
    · cases e : S m with
      | false => rw [e] at h; simp at h
      | true =>
        rw [e] at h
        have h : c = (m : Int) := by simpa using h
        subst h
        exact ⟨by omega, by omega, by simpa using e⟩
/-- One of a list whose keys differ, and the rest. -/
theorem flat_del {α κ : Type} [DecidableEq κ] (key : α → κ) (F : α → List Int) {l : List α} {x : α} (nd : (l.map key).Nodup) (hx : x ∈ l) : (l.flatMap F).Perm (F x ++ (l.filter fun y => !decide (key y = key x)).flatMap F) := by
  induction l with
  | nil => cases hx
  | cons y l ih =>
    rw [List.map_cons, List.nodup_cons] at nd
    rcases List.mem_cons.1 hx with e | h
    · subst e
      have : (x :: l).filter (fun y => !decide (key y = key x)) = l := by
        rw [List.filter_cons, if_neg (by simp), List.filter_eq_self]
        intro z hz
        simp only [Bool.not_eq_true', decide_eq_false_iff_not]
        intro e2
        exact nd.1 (List.mem_map.2 ⟨z, hz, e2⟩)
      rw [this, List.flatMap_cons]
    · have hne : key y ≠ key x := fun e => nd.1 (List.mem_map.2 ⟨x, h, e.symm⟩)
      rw [List.filter_cons, if_pos (by simp [hne]), List.flatMap_cons, List.flatMap_cons]
      refine ((ih nd.2 h).append_left (F y)).trans ?_
      rw [← List.append_assoc, ← List.append_assoc]
      exact List.perm_append_comm.append_right _
theorem iter_nodup {κ : Type} {kv : κ → Value} {w : World} {b r : Nat} {m left : List (κ × Value)} {cur : Option (κ × Value)} (h : IterG kv w b r m left cur) : (left.map (·.1)).Nodup := by
  obtain ⟨_, es, clock, since, seen, c0, _, _, h3, _, _, _, _, _, _, h10, _⟩ := h
  exact h3.sublist (h10.map _)
theorem iter_sub {κ : Type} {kv : κ → Value} {w : World} {b r : Nat} {m left : List (κ × Value)} {cur : Option (κ × Value)} (h : IterG kv w b r m left cur) : left.Sublist m := by
  obtain ⟨_, es, clock, since, seen, c0, _, _, h3, _, _, _, _, _, _, h10, _⟩ := h
  exact h10
theorem len_del {l : List ((Int × Int) × Value)} {x : (Int × Int) × Value} (hx : x ∈ l) : (delM l x.1).length < l.length := by
  unfold delM
  exact List.length_filter_lt_length_iff_exists.2 ⟨x, hx, by simp⟩
def delFi (fi : List FiE) (k : Int × Int) : List FiE := fi.filter fun e => !decide (e.k = k)
def delCo (co : List (Int × Int)) (k : Int × Int) : List (Int × Int) := co.filter fun e => !decide (e = k)
theorem del_fiM (fi : List FiE) (k : Int × Int) : fiM (delFi fi k) = delM (fiM fi) k := by
  unfold fiM delFi delM
  rw [List.filter_map]; rfl
theorem del_coM (co : List (Int × Int)) (k : Int × Int) : coM (delCo co k) = delM (coM co) k := by
  unfold coM delCo delM
  rw [List.filter_map]; rfl
theorem spM_keys (sp : List SpE) : (spM sp).map (·.1) = sp.map (·.k) := by unfold spM; rw [List.map_map]; rfl
theorem fiM_keys (fi : List FiE) : (fiM fi).map (·.1) = fi.map (·.k) := by unfold fiM; rw [List.map_map]; rfl
theorem coM_keys (co : List (Int × Int)) : (coM co).map (·.1) = co := by unfold coM; rw [List.map_map]; show co.map id = co; simp
theorem ints_one (x : Int) : [Value.int .i64 x] = ints [x] := rfl
theorem own_snoc {w : World} {base : Nat} {v : Value} {l r : List Int} (h : w.ownsRow base t_int 1 v (l.length + r.length) (ints l ++ ints r)) : Own w base v (l ++ r) := by
  unfold Own
  rw [ints_append, List.length_append]; exact h

end Go.Proofs.YtdhbpklmkibmbaaGreat
/- Layer 11 (remset): the law's first calls, and sets that aren't there. -/
namespace Go.Proofs.YtdhbpklmkibmbaaGreat
open Go.Vc

theorem blk_map {w : World} {b t c : Nat} {cs : List Value} {es : Array MapEntry} (h : Blk w b t cs) {m : Nat} (h2 : MapAt w m es c) : b ≠ m := by
  intro e
  subst e
  unfold Blk at h
  unfold MapAt at h2
  rw [h] at h2
  injection h2 with h2
  cases h2
theorem sets_nil {w : World} {b m1 m2 m3 : Nat} {n per : Int} (h : IsSets w b m1 m2 m3 n per) (a1 : MapAt w m1 #[] 0) (a2 : MapAt w m2 #[] 0) (a3 : MapAt w m3 #[] 0) : SetsG w b m1 m2 m3 n per [] [] [] := by
  obtain ⟨n1, n2, n3⟩ := h.ne
  refine ⟨h.tab, MapG.new a1, MapG.new a2, MapG.new a3, fun e he => (by cases he), fun e he => (by cases he), List.nodup_nil, ?_, fun e he => (by cases he)⟩
  unfold restB
  simp [n1, n2, n3, blk_map h.tab a1, blk_map h.tab a2, blk_map h.tab a3]
theorem sort_is {L M : List Int} (h : L.Perm M) (hs : M.Pairwise (· ≤ ·)) : (L.mergeSort fun x y => decide (x ≤ y)) = M := by
  refine List.Perm.eq_of_pairwise (le := fun x y => x ≤ y) (fun a b _ _ h1 h2 => by omega) ?_ hs ((List.mergeSort_perm L _).trans h)
  have := List.pairwise_mergeSort (le := fun x y : Int => decide (x ≤ y)) (fun a b c h1 h2 => by simp at *; omega) (fun a b => by simp; omega) L
  exact this.imp (fun h => by simpa using h)
def from8 (c : Int) : List Int := (List.range (c - 8).toNat).map fun (i : Nat) => 8 + (i : Int)
theorem from8_snoc {c : Int} (h : 8 ≤ c) : from8 (c + 1) = from8 c ++ [c] := by
  unfold from8
  rw [show (c + 1 - 8).toNat = (c - 8).toNat + 1 by omega, List.range_succ, List.map_append]
  congr 1
  show [8 + (((c - 8).toNat : Nat) : Int)] = [c]
  rw [Int.toNat_of_nonneg (by omega)]
  congr 1; omega
theorem from8_mem' {c x : Int} (h : x ∈ from8 c) : 8 ≤ x ∧ x < c := by
  unfold from8 at h
  obtain ⟨i, hi, e⟩ := List.mem_map.1 h
  have := List.mem_range.1 hi
  subst e
  omega
theorem from8_len (c : Int) : (from8 c).length = (c - 8).toNat := by simp [from8]
theorem spGet_one {e : SpE} {k : Int × Int} (h : e.k = k) : spGet [e] k = some e := by
  unfold spGet spM
  simp [idxM, h]
theorem put_one {e e' : SpE} (h : e.k = e'.k) : putSp [e] e' = [e'] := by
  unfold putSp spM
  simp [idxM, h]
theorem ints_of_blk {w : World} {p : Nat} {l : List Int} (h : Blk w p t_int (ints l)) (n c : Nat) (hn : n = l.length) : Ints w (.slice (some ⟨p, 0, none⟩) n c) l := by
  subst hn
  refine ⟨_, _, rfl, .inr ⟨_, rfl, fun i z hi => ?_⟩⟩
  rw [add_of, Nat.zero_add]
  exact h.cell (ints_get? hi)
theorem smallSets_spec (w : World) : CallC Pr f_remset_New [.agg #[.int .i64 512, .int .i64 64, .int .i64 8, .int .i64 8, .int .i64 64, .int .i64 448]] w
      (fun v w' => ∃ b m1 m2 m3, v = .tuple #[.pointer (some ⟨b, 0, none⟩), .int .i64 0] ∧ SetsG w' b m1 m2 m3 8 8 [] [] [] ∧ Fr No w w' ∧ w.heap.size ≤ b ∧ w.heap.size ≤ m1 ∧ w.heap.size ≤ m2 ∧ w.heap.size ≤ m3) :=
  CallC_mk (Calls.mono (CallC_elim (remset_New_spec 512 64 8 8 64 448 w (by decide) (by decide) (by decide) (by decide) (by decide) (by decide) (by decide) (by decide) (by decide))) fun e w' ⟨v, he, b, m1, m2, m3, hv, hs, a1, a2, a3, f, k⟩ => ⟨v, he, b, m1, m2, m3, hv, sets_nil hs a1 a2 a3, f, k⟩)

end Go.Proofs.YtdhbpklmkibmbaaGreat
/- Layer 11 (remset): the closures of refine, the sort and the greatest. -/
namespace Go.Proofs.YtdhbpklmkibmbaaGreat
open Go.Vc Go.Sort Go.Shelf

/-- Pairs whose sources are small. -/
abbrev BP := {p : Int × Int // 0 ≤ p.2 ∧ p.2 ≤ 65536}
instance : Inhabited BP := ⟨⟨(0, 0), by decide⟩⟩
def cmpB (a b : BP) : Int := a.1.2 - b.1.2
theorem cmpB_swo : SWO (ltOf cmpB) where
  irrefl x := by unfold ltOf cmpB; rw [decide_eq_false]; omega
  trans x y z h1 h2 := by
    unfold ltOf cmpB at *
    rw [decide_eq_true_iff] at *
    omega
  ntrans x y z h1 h2 := by
    unfold ltOf cmpB at *
    rw [decide_eq_false_iff_not] at *
    omega
theorem refine2_spec (a b : BP) (w : World) : CallC Pr f_remset_Sets_refine_2 [.agg (pairL a.1).toArray, .agg (pairL b.1).toArray] w (fun v w' => v = .int .i64 (cmpB a b) ∧ Ex' w w') := by
  have ha := a.2
  have hb := b.2
  refine call_sound T_ok fun_remset_Sets_refine_2 rfl (by kernel_rfl) rfl (Kp ?_)
  refine NewC_ex (fun p w1 hp h1 f1 s1 e1 => ?_)
  have h1 : Blk w1 p t_remset_pair (pairL a.1) := h1
  refine NewC_ex (fun q w2 hq h2 f2 s2 e2 => ?_)
  have h2 : Blk w2 q t_remset_pair (pairL b.1) := h2
  have h1 := h1.keep f2 id
  have X2 : Ex' w w2 := by rw [e2, e1]; exact (((Ex'.refl w).new _).new _)
  refine LdC_blk h1 rfl ?_
  refine LdC_blk h2 rfl ?_
  refine ⟨?_, X2⟩
  have : IntKind.i64.wrap (a.1.2 - b.1.2) = cmpB a b := wrap_i64 (by omega) (by omega)
  rw [← this]; rfl
theorem cmpLaysB (blk off size : Nat) (w : World) : CmpLays Pr f_remset_Sets_refine_2 #[] (fun x : BP => pairL x.1) 2 cmpB blk off size w := fun _ _ _ _ x y =>
  (CallC_elim (refine2_spec x y _)).mono fun _ _ ⟨v, he, hv, hx⟩ => ⟨by rw [he, hv], hx⟩
def OwnP (w : World) (base : Nat) (v : Value) (l : List (Int × Int)) : Prop := w.ownsRow base t_remset_pair 2 v l.length (pairsL l)
theorem pairsL_len (l : List (Int × Int)) : (pairsL l).length = l.length * 2 := by
  induction l with
  | nil => rfl
  | cons x l ih => show (pairL x ++ pairsL l).length = _; rw [List.length_append, ih]; simp [pairL]; omega
theorem flatB (l : List BP) : (flatK (fun x : BP => pairL x.1) 2 l.toArray).toList = pairsL (l.map (·.1)) := by
  rw [flatK_list _ 2 (fun _ => rfl) l.toArray]
  show l.flatMap _ = (l.map (·.1)).flatMap pairL
  rw [List.flatMap_map]
theorem SortP_spec {base : Nat} (v : Value) (l : List BP) (w : World) (own : OwnP w base v (l.map (·.1))) (hl : l.length ≤ 1000000) :
    CallC Pr f_slices_SortFunc___remset_pair_remset_pair_ [v, .func (.func f_remset_Sets_refine_2) #[] #[]] w
      (fun r w' => r = .tuple #[] ∧ ∃ l' : List BP, l'.Perm l ∧ l'.Pairwise (fun a b => a.1.2 ≤ b.1.2) ∧ OwnP w' base v (l'.map (·.1)) ∧ Fr (fun k => v.ownBlock = some k) w w') := by
  rcases own_cases own with ⟨rfl, h0, _⟩ | ⟨g, cap, cur, rfl, hbg, hb, ht, hn⟩
  · have : l = [] := List.eq_nil_of_length_eq_zero (by simpa using h0)
    subst this
    refine CallC_mk ((AnyF.slices_SortFunc_none sortK_remset_pair none 0 (.func (.func f_remset_Sets_refine_2) #[] #[]) w).mono fun e w' ⟨he, hw⟩ => ?_)
    subst hw
    exact ⟨_, he, rfl, [], List.Perm.refl _, List.Pairwise.nil, own, Fr.refl _ _⟩
  · unfold OwnP at own
    rw [List.length_map] at own ht hn ⊢
    have hcl : l.length * 2 ≤ cur.length := by
      have := congrArg List.length ht
      rw [pairsL_len, List.length_take, List.length_map] at this
      omega
    have hfl : (flatK (fun x : BP => pairL x.1) 2 l.toArray).size = l.length * 2 := by simp
    have hH : HoldsK (fun x : BP => pairL x.1) 2 w g 0 l.toArray := by
      refine holds_of id hb ?_
      rw [hfl, ht, flatB, List.map_id]
    have hc := AnyQ.slices_SortFunc sortK_remset_pair 2 sortK_remset_pair_agg sortK_remset_pair_size (fun x : BP => pairL x.1) (fun _ => rfl) (fun x v hv => by simp [pairL] at hv; rcases hv with rfl | rfl <;> rfl) cmpB cmpB_swo f_remset_Sets_refine_2 #[] g 0 cap l.toArray w (enters_of fun_remset_Sets_refine_2 (by kernel_rfl) rfl) (cmpLaysB _ _ _ _) hH hb.lt (by simp; omega)
    refine CallC_mk (Calls.mono hc fun e w' ⟨he, d', n, os, hp, hs, hw⟩ => ⟨_, he, rfl, d'.toList, ?_, ?_, ?_, ?_⟩)
    · have h1 := hp.2.2
      have h2 : d'.size = l.length := by have := hp.1; simpa using this
      rw [Array.toList_extract, Array.toList_extract] at h1
      have h3 : List.take l.length d'.toList = d'.toList := List.take_of_length_le (by simp; omega)
      simpa [List.extract_eq_take_drop, h2, h3] using h1
    · refine List.pairwise_iff_getElem.2 fun i j hi hj hij => ?_
      have h2 : d'.size = l.length := by have := hp.1; simpa using this
      have hjl : j < d'.size := by simpa using hj
      have := hs i j (Nat.zero_le _) hij (by simpa [h2] using hjl)
      rw [getElem!_pos d' j hjl, getElem!_pos d' i (by omega)] at this
      rw [Array.getElem_toList, Array.getElem_toList]
      unfold ltOf cmpB at this
      have := of_decide_eq_false this
      omega
    · have h2 : d'.toList.length = l.length := by have := hp.1; simpa using this
      have h3 : (flatK (fun x : BP => pairL x.1) 2 d').size = l.length * 2 := by simp; rw [← h2]; simp
      have hB : Blk w' g t_remset_pair (pairsL (d'.toList.map (·.1)) ++ cur.drop (l.length * 2)) := by
        have := putRow_blk id (d := flatK (fun x : BP => pairL x.1) 2 d') (n := n) (os := os) hb (by rw [h3]; exact hcl)
        rw [h3, List.map_id, show d' = d'.toList.toArray by simp, flatB] at this
        rw [hw]; exact this
      have h4 : (pairsL (d'.toList.map (·.1))).length = l.length * 2 := by rw [pairsL_len, List.length_map, h2]
      unfold OwnP
      rw [List.length_map, h2]
      refine own_over own hb hB ?_ (Nat.le_refl _) ?_
      · rw [List.length_append, h4, List.length_drop]; omega
      · rw [List.take_append_of_le_length (by rw [h4]; exact Nat.le_refl _), List.take_of_length_le (by rw [h4]; exact Nat.le_refl _)]
    · rw [hw]
      exact (putRow_fr id).weak (fun k _ e => by rw [e]; rfl)
/-- How many cards a fine source has. -/
def szF (per : Int) (fi : List FiE) (p : Int × Int) : Int := match fi.find? fun e => decide (e.k = p) with | some e => ((cnt (within e.S 0 per) per.toNat : Nat) : Int) | none => 0
theorem szF_le {per : Int} {fi : List FiE} {p : Int × Int} (hp : 0 ≤ per) : 0 ≤ szF per fi p ∧ szF per fi p ≤ per := by
  unfold szF
  split
  · have := cnt_le (within (by assumption : FiE).S 0 per) per.toNat
    omega
  · omega
theorem szF_eq {per : Int} {fi : List FiE} {e : FiE} (nd : (fi.map (·.k)).Nodup) (h : e ∈ fi) : szF per fi e.k = ((cnt (within e.S 0 per) per.toNat : Nat) : Int) := by
  have : fi.find? (fun x => decide (x.k = e.k)) = some e := by
    induction fi with
    | nil => cases h
    | cons y fi ih =>
      rw [List.map_cons, List.nodup_cons] at nd
      by_cases c : y.k = e.k
      · have hye : y = e := by
          rcases List.mem_cons.1 h with h | h
          · exact h.symm
          · exact absurd (List.mem_map.2 ⟨e, h, c.symm⟩) nd.1
        rw [List.find?_cons_of_pos (by simp [c]), hye]
      · rw [List.find?_cons_of_neg (by simp [c])]
        rcases List.mem_cons.1 h with h | h
        · exact absurd (by rw [h]) c
        · exact ih nd.2 h
  unfold szF
  rw [this]
theorem refine1_spec {b m1 m2 m3 t3 u3 : Nat} {n per : Int} {sp : List SpE} {fi : List FiE} {co : List (Int × Int)} (p : Int × Int) (w : World) (h : SetsG w b m1 m2 m3 n per sp fi co) (h3 : Blk w t3 u3 [.pointer (some ⟨b, 0, none⟩)]) (hp : p ∈ fi.map (·.k)) :
    CallC Pr f_remset_Sets_refine_1 [.agg (pairL p).toArray, .pointer (some ⟨t3, 0, none⟩)] w (fun v w' => v = .int .i64 (szF per fi p) ∧ Fr No w w') := by
  obtain ⟨e, he, rfl⟩ := List.mem_map.1 hp
  have nd : (fi.map (·.k)).Nodup := by rw [← fiM_keys]; exact h.map2.nodup
  refine call_sound T_ok fun_remset_Sets_refine_1 rfl (by kernel_rfl) rfl (Kp ?_)
  refine NewC_blk (fun q w1 hq h1 f1 s1 => ?_)
  have h1 : Blk w1 q t_remset_pair (pairL e.k) := h1
  have H1 := h.keep f1 (fun _ _ => id) (fun _ _ => id)
  have h31 := h3.keep f1 id
  refine AnyC_plan T_ok mixed (planO [0,1,2,3,4,6,7,8,9,1005,1010,11]) (Old w1) (by kernel_rfl) (by kernel_rfl) (fun _ _ => rfl) (Kp ?_)
  refine LdS_blk h31 rfl ?_
  refine LdS_blk H1.tab rfl ?_
  refine LdSN_blk (vs := pairL e.k) h1 rfl rfl ?_
  refine LdS_blk h31 rfl ?_
  refine LdS_blk H1.tab rfl ?_
  refine ⟨?_, trivial⟩
  refine LookN T_ok (kv := pairV) rfl keyP zv_p_bits_Set (H1.map2.keep (Fr.drew w1) id) e.k (v := .pointer (some ⟨e.f, 0, none⟩)) (by rw [fi_get h.map2.nodup he]; rfl) ?_
  refine Sd_intro (fun _ _ => rfl) ?_
  refine ⟨?_, trivial⟩
  refine CallC_intro (Count_spec 0 per w1.drew ((H1.sets e he).keep (Fr.drew w1) id id) (by decide)) (fun v w2 ⟨hv, f2⟩ => ?_)
  subst hv
  have f2 := f2.drewL
  refine Sd_intro f2.old ?_
  exact ⟨by rw [szF_eq nd he]; rfl, f1.no f2⟩
theorem refine3_spec {b m1 m2 m3 t3 u3 t12 u12 : Nat} {n per : Int} {sp : List SpE} {fi : List FiE} {co : List (Int × Int)} (x y : Int × Int) (w : World) (h : SetsG w b m1 m2 m3 n per sp fi co) (h3 : Blk w t3 u3 [.pointer (some ⟨b, 0, none⟩)])
    (h12 : Blk w t12 u12 [.func (.func f_remset_Sets_refine_1) #[] #[.pointer (some ⟨t3, 0, none⟩)]]) (hx : x ∈ fi.map (·.k)) (hy : y ∈ fi.map (·.k)) (hper : 0 ≤ per ∧ per ≤ 4194304) :
    CallC Pr f_remset_Sets_refine_3 [.agg (pairL x).toArray, .agg (pairL y).toArray, .pointer (some ⟨t12, 0, none⟩)] w (fun v w' => v = .int .i64 (szF per fi x - szF per fi y) ∧ Fr No w w') := by
  have bx := szF_le (fi := fi) (p := x) hper.1
  have by' := szF_le (fi := fi) (p := y) hper.1
  refine call_sound T_ok fun_remset_Sets_refine_3 rfl (by kernel_rfl) rfl (Kp ?_)
  refine NewC_blk (fun q w1 hq h1 f1 s1 => ?_)
  have h1 : Blk w1 q t_remset_pair (pairL x) := h1
  refine NewC_blk (fun r w2 hr h2 f2 s2 => ?_)
  have h2 : Blk w2 r t_remset_pair (pairL y) := h2
  have F2 := f1.no f2
  have h1 := h1.keep f2 id
  have H2 := h.keep F2 (fun _ _ => id) (fun _ _ => id)
  have h32 := h3.keep F2 id
  have h122 := h12.keep F2 id
  refine AnyC_plan T_ok mixed (planO [0,1,3,4,1002,1005,6,7]) (Old w2) (by kernel_rfl) (by kernel_rfl) (fun _ _ => rfl) (Kp ?_)
  refine LdS_blk h122 rfl ?_
  refine LdSN_blk (vs := pairL x) h1 rfl rfl ?_
  refine LdS_blk h122 rfl ?_
  refine LdSN_blk (vs := pairL y) h2 rfl rfl ?_
  refine ⟨?_, trivial⟩
  refine CallC_intro (refine1_spec x w2.drew (H2.keep (Fr.drew w2) (fun _ _ => id) (fun _ _ => id)) (h32.keep (Fr.drew w2) id) hx) (fun v w3 ⟨hv, f3⟩ => ?_)
  subst hv
  have f3 := f3.drewL
  refine Sd_intro f3.old ?_
  refine ⟨?_, trivial⟩
  refine CallC_intro (refine1_spec y w3 (H2.keep f3 (fun _ _ => id) (fun _ _ => id)) (h32.keep f3 id) hy) (fun v w4 ⟨hv, f4⟩ => ?_)
  subst hv
  have f4 := f3.no f4
  refine Sd_intro f4.old ?_
  refine ⟨?_, F2.no f4⟩
  show Value.int .i64 (IntKind.i64.wrap (szF per fi x - szF per fi y)) = _
  rw [wrap_i64 (by omega) (by omega)]
/-- The first of the greatest. -/
def maxP {α : Type} (sz : α → Int) (x : α) (l : List α) : α := l.foldl (fun m y => if sz y - sz m > 0 then y else m) x
theorem maxP_mem {α : Type} (sz : α → Int) : ∀ (l : List α) (x : α), maxP sz x l = x ∨ maxP sz x l ∈ l := by
  intro l
  induction l with
  | nil => intro x; exact .inl rfl
  | cons y l ih =>
    intro x
    unfold maxP
    rw [List.foldl_cons]
    rcases ih (if sz y - sz x > 0 then y else x) with h | h
    · unfold maxP at h
      rw [h]
      split
      · right; simp
      · left; rfl
    · right; exact List.mem_cons_of_mem _ h
theorem maxP_snoc {α : Type} (sz : α → Int) (x y : α) (l : List α) : maxP sz x (l ++ [y]) = if sz y - sz (maxP sz x l) > 0 then y else maxP sz x l := by
  unfold maxP
  rw [List.foldl_append]; rfl
theorem pairsL_get : ∀ {l : List (Int × Int)} {i : Nat} {z : Int × Int}, l[i]? = some z → ((pairsL l).drop (i * 2)).take 2 = pairL z := by
  intro l
  induction l with
  | nil => intro i z h; cases h
  | cons x l ih =>
    intro i z h
    cases i with
    | zero => simp only [List.getElem?_cons_zero, Option.some.injEq] at h; subst h; rfl
    | succ i =>
      have := ih (i := i) (z := z) (by simpa using h)
      show ((pairL x ++ pairsL l).drop ((i + 1) * 2)).take 2 = _
      rw [show (i + 1) * 2 = (pairL x).length + i * 2 by simp [pairL]; omega, ← List.drop_drop, List.drop_left]
      exact this
theorem cur_get {l : List (Int × Int)} {cur : List Value} (h : cur.take (l.length * 2) = pairsL l) {i : Nat} {z : Int × Int} (hz : l[i]? = some z) : (cur.drop (0 + i * 2)).take 2 = pairL z := by
  have hi := (List.getElem?_eq_some_iff.1 hz).1
  rw [← pairsL_get hz, ← h, Nat.zero_add, List.drop_take, List.take_take, show min 2 (l.length * 2 - i * 2) = 2 by omega]
set_option maxHeartbeats 1000000 in
theorem MaxP_spec {b m1 m2 m3 t3 u3 t12 u12 g cap base : Nat} {n per : Int} {sp : List SpE} {fi : List FiE} {co : List (Int × Int)} (x : Int × Int) (l : List (Int × Int)) (w : World) (h : SetsG w b m1 m2 m3 n per sp fi co) (h3 : Blk w t3 u3 [.pointer (some ⟨b, 0, none⟩)])
    (h12 : Blk w t12 u12 [.func (.func f_remset_Sets_refine_1) #[] #[.pointer (some ⟨t3, 0, none⟩)]]) (own : OwnP w base (.slice (some ⟨g, 0, none⟩) (x :: l).length cap) (x :: l)) (hl : l.length ≤ 1000) (hk : ∀ y ∈ x :: l, y ∈ fi.map (·.k)) (hper : 0 ≤ per ∧ per ≤ 4194304) :
    CallC Pr f_slices_MaxFunc___remset_pair_remset_pair_ [.slice (some ⟨g, 0, none⟩) (x :: l).length cap, .func (.func f_remset_Sets_refine_3) #[] #[.pointer (some ⟨t12, 0, none⟩)]] w (fun v w' => v = pairV (maxP (szF per fi) x l) ∧ Fr No w w') := by
  rcases own_cases own with ⟨h0, _⟩ | ⟨g', cap', cur, hv, hbg, hb, ht, hn⟩
  · cases h0
  have hg : g = g' := by
    injection hv with hv
    injection hv with hv
    injection hv
  subst hg
  obtain ⟨N, hN⟩ : ∃ N, N = (x :: l).length := ⟨_, rfl⟩
  have hN1 : N = l.length + 1 := hN
  rw [← hN]
  refine call_sound T_ok fun_slices_MaxFunc___remset_pair_remset_pair_ rfl (by kernel_rfl) rfl (Kp ?_)
  refine NewC_blk (fun p4 w1 hp4 h4 f1 s1 => ?_)
  refine Br_df (show ¬ (N : Int) < 1 by omega) ?_
  refine Sd_intro (show (0 : Int) ≤ 0 ∧ 0 < (N : Int) by omega) ?_
  refine LdN_idx (vs := pairL x) (m := 0 * 2) (hb.keep f1 id) (cur_get ht (i := 0) rfl) rfl ?_
  refine NewC_blk (fun p5 w2 hp5 h5 f2 s2 => ?_)
  refine StN_blk h5 rfl (Nat.le_of_ble_eq_true rfl) (fun w3 h53 f3 s3 => ?_)
  have h53 : Blk w3 p5 t_remset_pair (pairL x) := h53
  have F3 : Fr No w w3 := (f1.no f2).new f3 (fun _ _ e => e) (fun k e => by omega)
  have h43 := h4.keep (f2.new f3 (fun _ _ e => e) (fun k e => by omega)) id
  refine LoopC_intro (α := Int) (fun i => [(0, .slice (some ⟨g, 0, none⟩) N cap), (1, .func (.func f_remset_Sets_refine_3) #[] #[.pointer (some ⟨t12, 0, none⟩)]), (4, .pointer (some ⟨p4, 0, none⟩)), (5, .pointer (some ⟨p5, 0, none⟩)), (6, .int .i64 i)])
    (fun m i w4 => Fr (· = p5) w3 w4 ∧ 1 ≤ i ∧ i ≤ N ∧ (∃ z, z = maxP (szF per fi) x (l.take (i - 1).toNat) ∧ z ∈ fi.map (·.k) ∧ Blk w4 p5 t_remset_pair (pairL z)) ∧ m = (N - i).toNat)
    ((N : Int) - 1).toNat 1 ⟨rfl, rfl, rfl, rfl, rfl, trivial⟩ ⟨Fr.refl _ _, Int.le_refl _, (show (1 : Int) ≤ N by omega), ⟨x, by simp [maxP], hk x (by simp), h53⟩, rfl⟩ (fun m i w4 hJ => Kp ?_)
  obtain ⟨f4, i0, i1, ⟨z, ez, hz, h54⟩, hm⟩ := hJ
  have i0 : 1 ≤ i := i0
  have i1 : i ≤ N := i1
  have F4 : Fr No w w4 := F3.new f4 (fun _ _ e => e) (fun k e => by have := f1.size; omega)
  refine Br_dec (fun g0 => ?_) (fun g0 => ?_)
  · have g0 : i < (N : Int) := g0
    have hi : (i - 1).toNat < l.length := by omega
    obtain ⟨y, ey⟩ : ∃ y, y = l[(i - 1).toNat] := ⟨_, rfl⟩
    have hy : (x :: l)[i.toNat]? = some y := by
      rw [show i.toNat = (i - 1).toNat + 1 by omega, List.getElem?_cons_succ, List.getElem?_eq_getElem hi, ey]
    have hyk : y ∈ fi.map (·.k) := hk y (List.mem_of_getElem? hy)
    have hb4 := hb.keep F4 id
    refine AnyC_plan T_ok mixed (planO [0,1,2,3,4,5,1006,7]) (Old w4) (by kernel_rfl) (by kernel_rfl) (fun _ _ => rfl) (Kp ?_)
    refine Sd_intro (show 0 ≤ i ∧ i < (N : Int) by omega) ?_
    refine LdSN_idx (vs := pairL y) hb4 (cur_get ht hy) rfl ?_
    refine LdSN_blk (vs := pairL z) h54 rfl rfl ?_
    refine ⟨?_, trivial⟩
    have Hd := h.keep (F4.no (Fr.drew w4)) (fun _ _ => id) (fun _ _ => id)
    refine CallC_intro (refine3_spec y z w4.drew Hd (h3.keep (F4.no (Fr.drew w4)) id) (h12.keep (F4.no (Fr.drew w4)) id) hyk hz hper) (fun v w5 ⟨hv, f5⟩ => ?_)
    subst hv
    have f5 := f5.drewL
    refine Sd_intro f5.old ?_
    have hnext : maxP (szF per fi) x (l.take (i + 1 - 1).toNat) = if szF per fi y - szF per fi z > 0 then y else z := by
      rw [show (i + 1 - 1).toNat = (i - 1).toNat + 1 by omega, List.take_add_one, List.getElem?_eq_getElem hi, ← ey]
      show maxP _ x (l.take (i - 1).toNat ++ [y]) = _
      rw [maxP_snoc, ← ez]
    have h55 := h54.keep f5 id
    have F5 := F4.no f5
    refine Br_dec (fun g1 => ?_) (fun g1 => ?_)
    · have g1 : szF per fi y - szF per fi z > 0 := g1
      rw [if_pos g1] at hnext
      refine Sd_intro (show 0 ≤ i ∧ i < (N : Int) by omega) ?_
      refine LdN_idx (vs := pairL y) (hb4.keep f5 id) (cur_get ht hy) rfl ?_
      refine StN_blk h55 rfl (Nat.le_of_ble_eq_true rfl) (fun w6 h6 f6 s6 => ?_)
      have h6 : Blk w6 p5 t_remset_pair (pairL y) := h6
      refine ⟨(N - (i + 1)).toNat, _, by omega, ?_, i + 1, rfl, (f4.same (f5.weak (fun _ _ e => e.elim))).same f6, (show 1 ≤ i + 1 by omega), (show i + 1 ≤ N by omega), ⟨y, hnext.symm, hyk, h6⟩, rfl⟩
      exact ⟨rfl, rfl, rfl, rfl, look_int rfl (wrap_i64 (by omega) (by omega)), trivial⟩
    · have g1 : ¬ szF per fi y - szF per fi z > 0 := g1
      rw [if_neg g1] at hnext
      refine ⟨(N - (i + 1)).toNat, _, by omega, ?_, i + 1, rfl, (f4.same (f5.weak (fun _ _ e => e.elim))), (show 1 ≤ i + 1 by omega), (show i + 1 ≤ N by omega), ⟨z, hnext.symm, hz, h55⟩, rfl⟩
      exact ⟨rfl, rfl, rfl, rfl, look_int rfl (wrap_i64 (by omega) (by omega)), trivial⟩
  · have g0 : ¬ i < (N : Int) := g0
    have ez : z = maxP (szF per fi) x l := by
      rw [ez, List.take_of_length_le (by omega)]
    refine LdN_blk (vs := pairL z) h54 rfl rfl ?_
    have h44 := h43.keep f4 (show ¬ p4 = p5 by omega)
    refine StN_blk h44 rfl (Nat.le_of_ble_eq_true rfl) (fun w6 h6 f6 s6 => ?_)
    have h6 : Blk w6 p4 t_remset_pair (pairL z) := h6
    refine LdN_blk (vs := pairL z) h6 rfl rfl ?_
    refine ⟨by rw [ez]; rfl, F4.new f6 (fun _ _ e => e) (fun k e => by omega)⟩
end Go.Proofs.YtdhbpklmkibmbaaGreat
