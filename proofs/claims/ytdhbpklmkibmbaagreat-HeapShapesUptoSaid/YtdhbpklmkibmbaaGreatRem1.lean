/- Layer 11 (remset): what isn't there; keys. -/
import Derived.Test.YtdhbpklmkibmbaaGreatQueue
import Derived.Test.YtdhbpklmkibmbaaGreatBitsE
import Derived.Test.YtdhbpklmkibmbaaGreatVcL
import Derived.Test.YtdhbpklmkibmbaaGreatMapS
import Derived.Test.YtdhbpklmkibmbaaGreatSame01
namespace Go.Proofs.YtdhbpklmkibmbaaGreat
open Go.Vc

theorem rregion_nil (r : Int) (w : World) : CallC Pr f_remset_Sets_region [.pointer none, .int .i64 r] w (fun v w' => v = .bool false ∧ Fr No w w') := by
  refine call_sound T_ok fun_remset_Sets_region rfl (by kernel_rfl) rfl (Kp ?_)
  exact ⟨rfl, Fr.refl _ _⟩
theorem rkey_nil (a b : Int) (w : World) : CallC Pr f_remset_Sets_key [.pointer none, .int .i64 a, .int .i64 b] w (fun v w' => v = .tuple #[pairV (0, 0), .int .i64 1] ∧ Fr No w w') := by
  refine call_sound T_ok fun_remset_Sets_key rfl (by kernel_rfl) rfl (Kp ?_)
  refine NewC_blk (fun p w1 hp h1 f1 s1 => ?_)
  refine StN_blk h1 rfl (Nat.le_of_ble_eq_true rfl) (fun w2 h2 f2 s2 => ?_)
  have h2 : Blk w2 p t_remset_pair (pairL (0, 0)) := h2
  refine LdN_blk (vs := pairL (0, 0)) h2 rfl rfl ?_
  exact ⟨rfl, f1.new f2 (fun _ _ e => e) (fun k e => by omega)⟩
theorem Add_nil11 (a b : Int) (w : World) : CallC Pr f_remset_Sets_Add [.pointer none, .int .i64 a, .int .i64 b] w (fun v w' => v = .tuple #[.bool false, .int .i64 1] ∧ Fr No w w') := by
  refine call_sound T_ok fun_remset_Sets_Add rfl (by kernel_rfl) rfl (Kp ?_)
  refine CallC_intro (rkey_nil a b w) (fun v w1 ⟨hv, f1⟩ => ?_)
  subst hv
  refine NewC_blk (fun p w2 hp h2 f2 s2 => ?_)
  refine StN_blk h2 rfl (Nat.le_of_ble_eq_true rfl) (fun w3 h3 f3 s3 => ?_)
  exact ⟨rfl, (f1.no f2).new f3 (fun _ _ e => e) (fun k e => by have := f1.size; omega)⟩
theorem Has_nil11 (a b : Int) (w : World) : CallC Pr f_remset_Sets_Has [.pointer none, .int .i64 a, .int .i64 b] w (fun v w' => v = .bool false ∧ Fr No w w') := by
  refine call_sound T_ok fun_remset_Sets_Has rfl (by kernel_rfl) rfl (Kp ?_)
  refine CallC_intro (rkey_nil a b w) (fun v w1 ⟨hv, f1⟩ => ?_)
  subst hv
  refine NewC_blk (fun p w2 hp h2 f2 s2 => ?_)
  refine StN_blk h2 rfl (Nat.le_of_ble_eq_true rfl) (fun w3 h3 f3 s3 => ?_)
  exact ⟨rfl, (f1.no f2).new f3 (fun _ _ e => e) (fun k e => by have := f1.size; omega)⟩
theorem forget_nil11 (a : Int) (fv : Value) (w : World) (hfv : ∃ f c, fv = .func (.func f) #[] c) : CallC Pr f_remset_Sets_forget [.pointer none, .int .i64 a, fv] w (fun v w' => v = .int .i64 1 ∧ Fr No w w') := by
  obtain ⟨f, c, rfl⟩ := hfv
  refine call_sound T_ok fun_remset_Sets_forget rfl (by kernel_rfl) rfl (Kp ?_)
  refine NewC_blk (fun p w1 hp h1 f1 s1 => ?_)
  exact ⟨rfl, f1⟩
theorem Clear_nil11 (a : Int) (w : World) : CallC Pr f_remset_Sets_Clear [.pointer none, .int .i64 a] w (fun v w' => v = .int .i64 1 ∧ Fr No w w') := by
  refine call_sound T_ok fun_remset_Sets_Clear rfl (by kernel_rfl) rfl (Kp ?_)
  refine NewC_blk (fun p w1 hp h1 f1 s1 => ?_)
  have h1 : Blk w1 p t_int [.int .i64 a] := h1
  refine LdC_blk h1 rfl ?_
  refine CallC_intro (forget_nil11 a _ w1 ⟨_, _, rfl⟩) (fun v w2 ⟨hv, f2⟩ => ?_)
  subst hv
  exact ⟨rfl, f1.no f2⟩
theorem Scrub_nil11 (a : Int) (w : World) : CallC Pr f_remset_Sets_Scrub [.pointer none, .int .i64 a] w (fun v w' => v = .int .i64 1 ∧ Fr No w w') := by
  refine call_sound T_ok fun_remset_Sets_Scrub rfl (by kernel_rfl) rfl (Kp ?_)
  refine NewC_blk (fun p w1 hp h1 f1 s1 => ?_)
  have h1 : Blk w1 p t_int [.int .i64 a] := h1
  refine LdC_blk h1 rfl ?_
  refine CallC_intro (forget_nil11 a _ w1 ⟨_, _, rfl⟩) (fun v w2 ⟨hv, f2⟩ => ?_)
  subst hv
  exact ⟨rfl, f1.no f2⟩
theorem rregion_spec {b m1 m2 m3 : Nat} {n per : Int} (r : Int) (w : World) (h : Blk w b t_remset_Sets [.int .i64 n, .int .i64 per, .map (some m1), .map (some m2), .map (some m3)]) :
    CallC Pr f_remset_Sets_region [.pointer (some ⟨b, 0, none⟩), .int .i64 r] w (fun v w' => v = .bool (decide (0 ≤ r ∧ r < n)) ∧ Fr No w w') := by
  refine call_sound T_ok fun_remset_Sets_region rfl (by kernel_rfl) rfl (Kp ?_)
  refine Br_dec (fun g => ?_) (fun g => ?_)
  · have g : r ≥ 0 := g
    refine LdC_blk h rfl ?_
    refine ⟨?_, Fr.refl _ _⟩
    have : decide (r < n) = decide (0 ≤ r ∧ r < n) := by rw [decide_eq_decide]; omega
    rw [← this]; rfl
  · have g : ¬ r ≥ 0 := g
    refine ⟨?_, Fr.refl _ _⟩
    rw [decide_eq_false (by omega : ¬ (0 ≤ r ∧ r < n))]; rfl
theorem rkey_spec {b m1 m2 m3 : Nat} {n per : Int} (a c : Int) (w : World) (h : Blk w b t_remset_Sets [.int .i64 n, .int .i64 per, .map (some m1), .map (some m2), .map (some m3)]) (hp : 1 ≤ per) (hn : 1 ≤ n) (hnp : n * per ≤ 4194304) :
    CallC Pr f_remset_Sets_key [.pointer (some ⟨b, 0, none⟩), .int .i64 a, .int .i64 c] w (fun v w' => ((0 ≤ a ∧ a < n ∧ 0 ≤ c ∧ c < n * per ∧ v = .tuple #[pairV (a, c / per), .int .i64 0]) ∨ (¬ (0 ≤ a ∧ a < n ∧ 0 ≤ c ∧ c < n * per) ∧ v = .tuple #[pairV (0, 0), .int .i64 2])) ∧ Fr No w w') := by
  have hnp0 : 1 ≤ n * per := by have := Int.mul_le_mul hn hp (by omega) (by omega); omega
  have hnp1 : n ≤ n * per := by have := Int.mul_le_mul_of_nonneg_left hp (show (0 : Int) ≤ n by omega); omega
  have hnp2 : per ≤ n * per := by have := Int.mul_le_mul_of_nonneg_right hn (show (0 : Int) ≤ per by omega); omega
  have ew : IntKind.i64.wrap (n * per) = n * per := wrap_i64 (by omega) (by omega)
  refine call_sound T_ok fun_remset_Sets_key rfl (by kernel_rfl) rfl (Kp ?_)
  refine NewC_blk (fun p w1 hpp h1 f1 s1 => ?_)
  have h1 : Blk w1 p t_remset_pair (pairL (0, 0)) := h1
  have hb := h.keep f1 id
  have pb : p ≠ b := by have := h.lt; omega
  refine AnyC_mid (α := Bool) (fun r => [(0, .pointer (some ⟨b, 0, none⟩)), (1, .int .i64 a), (2, .int .i64 c), (6, .pointer (some ⟨p, 0, none⟩)), (12, .bool r)]) (fun r w' => Fr No w1 w' ∧ r = !decide (0 ≤ a ∧ a < n ∧ 0 ≤ c ∧ c < n * per)) ?_ (fun r w2 hw2 => Kp ?_)
  · refine AnyC_plan T_ok mixed (planO [0,1,1002,3,4,5,6,7,8,9,10,11,12,13,14,15,16,17,18,19,20,21]) (Old w1) (by kernel_rfl) (by kernel_rfl) (fun _ _ => rfl) (Kp ?_)
    refine ⟨?_, trivial⟩
    refine CallC_intro (rregion_spec a _ (hb.keep (Fr.drew w1) id)) (fun v w2 ⟨hv, f2⟩ => ?_)
    subst hv
    have f2 := f2.drewL
    refine Sd_intro f2.old ?_
    refine Br_ndec (fun g => ?_) (fun g => ?_)
    · have g : ¬ (0 ≤ a ∧ a < n) := g
      refine ⟨true, ⟨rfl, rfl, rfl, rfl, rfl, trivial⟩, f2, ?_⟩
      rw [decide_eq_false (fun e => g ⟨e.1, e.2.1⟩)]; rfl
    · have g : 0 ≤ a ∧ a < n := g
      refine Br_dec (fun g1 => ?_) (fun g1 => ?_)
      · have g1 : c < 0 := g1
        refine ⟨true, ⟨rfl, rfl, rfl, rfl, rfl, trivial⟩, f2, ?_⟩
        rw [decide_eq_false (by omega)]; rfl
      · have g1 : ¬ c < 0 := g1
        refine LdS_blk hb rfl ?_
        refine LdS_blk hb rfl ?_
        refine ⟨decide (c ≥ IntKind.i64.wrap (n * per)), ⟨rfl, rfl, rfl, rfl, rfl, trivial⟩, f2, ?_⟩
        rw [ew]
        by_cases g2 : c < n * per
        · rw [decide_eq_true (⟨g.1, g.2, by omega, g2⟩ : 0 ≤ a ∧ a < n ∧ 0 ≤ c ∧ c < n * per), decide_eq_false (by omega)]; rfl
        · rw [decide_eq_false (fun e => g2 e.2.2.2 : ¬ (0 ≤ a ∧ a < n ∧ 0 ≤ c ∧ c < n * per)), decide_eq_true (by omega)]; rfl
  · obtain ⟨f2, hr⟩ := hw2
    have h2 := h1.keep f2 id
    have hb2 := hb.keep f2 id
    refine Br_intro (fun e => ?_) (fun e => ?_)
    · rw [e] at hr
      refine StN_blk h2 rfl (Nat.le_of_ble_eq_true rfl) (fun w3 h3 f3 s3 => ?_)
      have h3 : Blk w3 p t_remset_pair (pairL (0, 0)) := h3
      refine LdN_blk (vs := pairL (0, 0)) h3 rfl rfl ?_
      refine ⟨.inr ⟨?_, rfl⟩, (f1.no f2).new f3 (fun _ _ e => e) (fun k e => by omega)⟩
      have hr : (true : Bool) = !decide (0 ≤ a ∧ a < n ∧ 0 ≤ c ∧ c < n * per) := hr
      intro hh
      rw [decide_eq_true hh] at hr
      cases hr
    · rw [e] at hr
      have hr : (false : Bool) = !decide (0 ≤ a ∧ a < n ∧ 0 ≤ c ∧ c < n * per) := hr
      have hh : 0 ≤ a ∧ a < n ∧ 0 ≤ c ∧ c < n * per := by
        by_cases q : 0 ≤ a ∧ a < n ∧ 0 ≤ c ∧ c < n * per
        · exact q
        · rw [decide_eq_false q] at hr; cases hr
      have eq1 : c.tdiv per = c / per := Int.tdiv_eq_ediv_of_nonneg hh.2.2.1
      have hq0 : 0 ≤ c / per := Int.ediv_nonneg hh.2.2.1 (by omega)
      have hq1 : c / per ≤ c := Int.ediv_le_self _ hh.2.2.1
      have eq2 : IntKind.i64.wrap (c.tdiv per) = c / per := by rw [eq1]; exact wrap_i64 (by omega) (by omega)
      refine LdC_blk hb2 rfl ?_
      refine Sd_intro (by omega) ?_
      refine StN_blk h2 rfl (Nat.le_of_ble_eq_true rfl) (fun w3 h3 f3 s3 => ?_)
      have h3 : Blk w3 p t_remset_pair (pairL (a, IntKind.i64.wrap (c.tdiv per))) := h3
      rw [eq2] at h3
      refine LdN_blk (vs := pairL (a, c / per)) h3 rfl rfl ?_
      exact ⟨.inl ⟨hh.1, hh.2.1, hh.2.2.1, hh.2.2.2, rfl⟩, (f1.no f2).new f3 (fun _ _ e => e) (fun k e => by omega)⟩
end Go.Proofs.YtdhbpklmkibmbaaGreat
/- Layer 11 (remset): the sets in memory; Add of a sparse source. -/
namespace Go.Proofs.YtdhbpklmkibmbaaGreat
open Go.Vc

structure SpE where
  k : Int × Int
  g : Nat
  cap : Nat
  l : List Int
structure FiE where
  k : Int × Int
  f : Nat
  r : Nat
  S : Nat → Bool
def spV (e : SpE) : Value := .slice (some ⟨e.g, 0, none⟩) e.l.length e.cap
def spM (sp : List SpE) : List ((Int × Int) × Value) := sp.map fun e => (e.k, spV e)
def fiM (fi : List FiE) : List ((Int × Int) × Value) := fi.map fun e => (e.k, .pointer (some ⟨e.f, 0, none⟩))
def coM (co : List (Int × Int)) : List ((Int × Int) × Value) := co.map fun k => (k, .bool true)
def restB (b m1 m2 m3 : Nat) (fi : List FiE) : List Nat := b :: m1 :: m2 :: m3 :: fi.flatMap fun e => [e.f, e.r]
def setsL (n per : Int) (m1 m2 m3 : Nat) : List Value := [.int .i64 n, .int .i64 per, .map (some m1), .map (some m2), .map (some m3)]
structure SetsG (w : World) (b m1 m2 m3 : Nat) (n per : Int) (sp : List SpE) (fi : List FiE) (co : List (Int × Int)) : Prop where
  tab : Blk w b t_remset_Sets (setsL n per m1 m2 m3)
  map1 : MapG pairV w m1 (spM sp)
  map2 : MapG pairV w m2 (fiM fi)
  map3 : MapG pairV w m3 (coM co)
  rows : ∀ e ∈ sp, Own w 0 (spV e) e.l
  sets : ∀ e ∈ fi, IsBits w e.f e.r per e.S
  gs : (sp.map (·.g)).Nodup
  rs : (restB b m1 m2 m3 fi).Nodup
  dj : ∀ e ∈ sp, e.g ∉ restB b m1 m2 m3 fi
theorem spV_lt {w : World} {e : SpE} (h : Own w 0 (spV e) e.l) : e.g < w.heap.size := h.lt e.g rfl
theorem SetsG.keep {w w' : World} {b m1 m2 m3 : Nat} {n per : Int} {sp : List SpE} {fi : List FiE} {co : List (Int × Int)} {F : Nat → Prop} (h : SetsG w b m1 m2 m3 n per sp fi co) (f : Fr F w w') (h1 : ∀ x ∈ restB b m1 m2 m3 fi, ¬ F x) (h2 : ∀ e ∈ sp, ¬ F e.g) : SetsG w' b m1 m2 m3 n per sp fi co := by
  have hf : ∀ e ∈ fi, e.f ∈ restB b m1 m2 m3 fi ∧ e.r ∈ restB b m1 m2 m3 fi := fun e he => by
    have : ∀ x ∈ [e.f, e.r], x ∈ restB b m1 m2 m3 fi := fun x hx => by
      unfold restB
      simp only [List.mem_cons, List.mem_flatMap]
      exact .inr (.inr (.inr (.inr ⟨e, he, by simpa using hx⟩)))
    exact ⟨this _ (by simp), this _ (by simp)⟩
  exact ⟨h.tab.keep f (h1 _ (by simp [restB])), h.map1.keep f (h1 _ (by simp [restB])), h.map2.keep f (h1 _ (by simp [restB])), h.map3.keep f (h1 _ (by simp [restB])),
    fun e he => own_keepV (h.rows e he) f (fun k hk => by injection hk with hk; rw [← hk]; exact h2 e he), fun e he => (h.sets e he).keep f (h1 _ (hf e he).1) (h1 _ (hf e he).2), h.gs, h.rs, h.dj⟩
def putSp (sp : List SpE) (e : SpE) : List SpE := match idxM (spM sp) e.k with | some i => sp.set i e | none => sp ++ [e]
theorem put_spM (sp : List SpE) (e : SpE) : spM (putSp sp e) = putM (spM sp) e.k (spV e) := by
  unfold putSp putM
  cases idxM (spM sp) e.k with
  | none => simp [spM]
  | some i => simp [spM, List.map_set]
theorem mem_putSp {sp : List SpE} {e x : SpE} (h : x ∈ putSp sp e) : x = e ∨ x ∈ sp := by
  unfold putSp at h
  split at h
  · rcases List.mem_or_eq_of_mem_set h with h | h
    · exact .inr h
    · exact .inl h
  · rcases List.mem_append.1 h with h | h
    · exact .inr h
    · left; simpa using h
/-- The row of a source that is sparse, or none. -/
def spGet (sp : List SpE) (k : Int × Int) : Option SpE := match idxM (spM sp) k with | some i => sp[i]? | none => none
theorem spGet_some {sp : List SpE} {k : Int × Int} {e : SpE} (h : spGet sp k = some e) : e ∈ sp ∧ e.k = k ∧ getM (spM sp) k = some (spV e) := by
  unfold spGet at h
  split at h
  · rename_i i hi
    obtain ⟨v, h1, h2⟩ := idx_some hi
    have : (spM sp)[i]? = some (e.k, spV e) := by unfold spM; rw [List.getElem?_map, h]; rfl
    rw [this] at h1
    injection h1 with h1
    injection h1 with a b
    exact ⟨List.mem_of_getElem? h, a, by rw [h2, b]⟩
  · cases h
theorem spGet_none {sp : List SpE} {k : Int × Int} (h : spGet sp k = none) : getM (spM sp) k = none ∧ idxM (spM sp) k = none := by
  unfold spGet at h
  split at h
  · rename_i i hi
    obtain ⟨v, h1, h2⟩ := idx_some hi
    unfold spM at h1
    rw [List.getElem?_map, h] at h1
    cases h1
  · rename_i hi
    exact ⟨(idx_none hi).1, hi⟩
theorem SetsG.rest_lt {w : World} {b m1 m2 m3 : Nat} {n per : Int} {sp : List SpE} {fi : List FiE} {co : List (Int × Int)} (h : SetsG w b m1 m2 m3 n per sp fi co) : ∀ x ∈ restB b m1 m2 m3 fi, x < w.heap.size := by
  intro x hx
  unfold restB at hx
  simp only [List.mem_cons, List.mem_flatMap] at hx
  rcases hx with rfl | rfl | rfl | rfl | ⟨y, hy, hx⟩
  · exact h.tab.lt
  · exact h.map1.lt
  · exact h.map2.lt
  · exact h.map3.lt
  · obtain ⟨ws, hw, _⟩ := h.sets y hy
    simp at hx
    rcases hx with rfl | rfl
    · exact hw.tab.lt
    · exact hw.row.lt
/-- A row is laid, or grows. -/
theorem SetsG.put {w w' : World} {b m1 m2 m3 : Nat} {n per : Int} {sp : List SpE} {fi : List FiE} {co : List (Int × Int)} (h : SetsG w b m1 m2 m3 n per sp fi co) {e : SpE} {F : Nat → Prop} (f : Fr F w w')
    (hF : ∀ x, F x → x = m1 ∨ (∃ o, spGet sp e.k = some o ∧ x = o.g)) (hM : MapG pairV w' m1 (putM (spM sp) e.k (spV e))) (hR : Own w' 0 (spV e) e.l) (hg : (∃ o, spGet sp e.k = some o ∧ e.g = o.g) ∨ w.heap.size ≤ e.g) :
    SetsG w' b m1 m2 m3 n per (putSp sp e) fi co := by
  have hrs := h.rest_lt
  have hne1 : ∀ x ∈ restB b m1 m2 m3 fi, F x → x = m1 := by
    intro x hx hf
    rcases hF x hf with e1 | ⟨o, ho, e1⟩
    · exact e1
    · exact absurd (by rw [← e1]; exact hx) (h.dj o (spGet_some ho).1)
  have hnd := h.rs
  unfold restB at hnd
  simp only [List.nodup_cons, List.mem_cons, not_or] at hnd
  obtain ⟨⟨n1, n2, n3, n4⟩, ⟨n5, n6, n7⟩, ⟨n8, n9⟩, n10, n11⟩ := hnd
  have hfi : ∀ y ∈ fi, y.f ≠ m1 ∧ y.r ≠ m1 ∧ y.f ∈ restB b m1 m2 m3 fi ∧ y.r ∈ restB b m1 m2 m3 fi := by
    intro y hy
    refine ⟨fun e => n7 (List.mem_flatMap.2 ⟨y, hy, by simp [e]⟩), fun e => n7 (List.mem_flatMap.2 ⟨y, hy, by simp [e]⟩), ?_, ?_⟩
    · unfold restB; simp only [List.mem_cons, List.mem_flatMap]; exact .inr (.inr (.inr (.inr ⟨y, hy, by simp⟩)))
    · unfold restB; simp only [List.mem_cons, List.mem_flatMap]; exact .inr (.inr (.inr (.inr ⟨y, hy, by simp⟩)))
  have mr : ∀ x ∈ [b, m1, m2, m3], x ∈ restB b m1 m2 m3 fi := fun x hx => by
    unfold restB
    simp at hx ⊢
    rcases hx with h | h | h | h <;> simp [h]
  refine ⟨h.tab.keep f (fun hf => n1 (hne1 b (mr _ (by simp)) hf)), by rw [put_spM]; exact hM, h.map2.keep f (fun hf => n5 (hne1 m2 (mr _ (by simp)) hf).symm), h.map3.keep f (fun hf => n6 (hne1 m3 (mr _ (by simp)) hf).symm), ?_, fun y hy => (h.sets y hy).keep f (fun hf => (hfi y hy).1 (hne1 _ (hfi y hy).2.2.1 hf)) (fun hf => (hfi y hy).2.1 (hne1 _ (hfi y hy).2.2.2 hf)), ?_, h.rs, ?_⟩
  · intro x hx
    obtain ⟨j, hj, ej⟩ := List.getElem_of_mem hx
    have keepx : x ∈ sp → (∀ o, spGet sp e.k = some o → x.g ≠ o.g) → Own w' 0 (spV x) x.l := fun hm hne => own_keepV (h.rows x hm) f (fun k hk hf => by
      injection hk with hk
      have hk : x.g = k := hk
      rcases hF k hf with e1 | ⟨o, ho, e1⟩
      · exact h.dj x hm (by rw [hk, e1]; exact mr _ (by simp))
      · exact hne o ho (hk.trans e1))
    unfold putSp at hj ej
    unfold spGet at keepx
    cases hi : idxM (spM sp) e.k with
    | none =>
      rw [hi] at keepx
      simp only [hi] at hj ej
      rw [List.getElem_append] at ej
      split at ej
      · exact keepx (by rw [← ej]; exact List.getElem_mem _) (fun o ho => by cases ho)
      · have : x = e := by rw [← ej]; simp
        rw [this]; exact hR
    | some q =>
      rw [hi] at keepx
      simp only [hi] at hj ej
      rw [List.getElem_set] at ej
      split at ej
      · rw [← ej]; exact hR
      · rename_i hq
        rw [List.length_set] at hj
        refine keepx (by rw [← ej]; exact List.getElem_mem _) (fun o ho => ?_)
        obtain ⟨hql, eo⟩ := List.getElem?_eq_some_iff.1 ho
        have hp := List.pairwise_iff_getElem.1 h.gs
        rw [← ej, ← eo]
        rcases Nat.lt_or_gt_of_ne hq with c | c
        · have := hp q j (by simpa using hql) (by simpa using hj) c
          simpa using this.symm
        · have := hp j q (by simpa using hj) (by simpa using hql) c
          simpa using this
  · have hfresh : w.heap.size ≤ e.g → e.g ∉ sp.map (·.g) := fun hle hm => by
      obtain ⟨x, hx, ex⟩ := List.mem_map.1 hm
      have := spV_lt (h.rows x hx)
      omega
    unfold putSp
    cases hi : idxM (spM sp) e.k with
    | none =>
      simp only [List.map_append, List.map_cons, List.map_nil]
      have hle : w.heap.size ≤ e.g := by
        rcases hg with ⟨o, ho, _⟩ | h
        · unfold spGet at ho; rw [hi] at ho; cases ho
        · exact h
      exact List.nodup_append.2 ⟨h.gs, by simp, fun a ha b' hb' e' => by simp at hb'; exact hfresh hle (by rw [← hb', ← e']; exact ha)⟩
    | some q =>
      simp only [List.map_set]
      rcases hg with ⟨o, ho, eg⟩ | hle
      · unfold spGet at ho
        rw [hi] at ho
        have : (sp.map (·.g)).set q e.g = sp.map (·.g) := by
          apply List.ext_getElem?
          intro j
          rw [List.getElem?_set]
          by_cases hj : q = j
          · subst hj
            have ho : sp[q]? = some o := ho
            rw [if_pos rfl, List.getElem?_map, ho, eg]
            split
            · rfl
            · rename_i hh; exact absurd (by simpa using (List.getElem?_eq_some_iff.1 ho).1) hh
          · rw [if_neg hj]
        rw [this]; exact h.gs
      · refine List.pairwise_iff_getElem.2 fun i j hi' hj' hij => ?_
        rw [List.length_set] at hi' hj'
        have hp := List.pairwise_iff_getElem.1 h.gs i j hi' hj' hij
        rw [List.getElem_set, List.getElem_set]
        have m1' := List.getElem_mem hi'
        have m2' := List.getElem_mem hj'
        split
        · split
          · omega
          · intro e'; exact hfresh hle (by rw [e']; exact m2')
        · split
          · intro e'; exact hfresh hle (by rw [← e']; exact m1')
          · exact hp
  · intro x hx
    rcases mem_putSp hx with rfl | hx
    · rcases hg with ⟨o, ho, eg⟩ | hle
      · rw [eg]; exact h.dj o (spGet_some ho).1
      · intro hm; have := hrs _ hm; omega
    · exact h.dj x hx
theorem keyP : KeyOk Pr t_remset_pair pairV := pair_key (fun a b => by kernel_rfl)
end Go.Proofs.YtdhbpklmkibmbaaGreat
/- Layer 11 (remset): Add of a source that is sparse. -/
namespace Go.Vc
variable {P : Program} {κ : Type} [DecidableEq κ] {kv : κ → Value} {w w' : World} {b : Nat} {m : List (κ × Value)} {T : Tab}
theorem LookN (hT : T.Ok P) {t tk te : Nat} {z v : Value} (ht : T.d t = .map tk te) (K : KeyOk P tk kv) (hz : ∀ w, (zeroValue te).run P w = .ok z w) (h : MapG kv w b m) (k : κ) {Q : Value → World → Prop} (hv : (getM m k).getD z = v)
    (hk : Q v w) : RunC P (Instr.lookup t (.map (some b)) (kv k) false) w Q := LookC hT ht K hz h k false (by rw [hv]; exact hk)
end Go.Vc
namespace Go.Proofs.YtdhbpklmkibmbaaGreat
open Go.Vc

/-- What a sparse source's row is. -/
theorem sp_row {w : World} {b m1 m2 m3 : Nat} {n per : Int} {sp : List SpE} {fi : List FiE} {co : List (Int × Int)} (h : SetsG w b m1 m2 m3 n per sp fi co) (k : Int × Int) {l : List Int} (hl : (spGet sp k = none ∧ l = []) ∨ ∃ o, spGet sp k = some o ∧ o.l = l) :
    ∃ a cp, (getM (spM sp) k).getD (.slice none 0 0) = .slice a l.length cp ∧ Own w 0 (.slice a l.length cp) l ∧ (∀ x, (Value.slice a l.length cp).ownBlock = some x ↔ ∃ o, spGet sp k = some o ∧ x = o.g) := by
  rcases hl with ⟨h1, rfl⟩ | ⟨o, h1, rfl⟩
  · refine ⟨none, 0, by rw [(spGet_none h1).1]; rfl, Own.nil _ _, fun x => ⟨(fun e => by cases e), fun ⟨o, ho, _⟩ => by rw [h1] at ho; cases ho⟩⟩
  · obtain ⟨hm, hk, hg⟩ := spGet_some h1
    refine ⟨some ⟨o.g, 0, none⟩, o.cap, by rw [hg]; rfl, h.rows o hm, fun x => ⟨fun e => ⟨o, h1, ?_⟩, fun ⟨o', ho, ex⟩ => ?_⟩⟩
    · have e : some o.g = some x := e
      injection e with e
      exact e.symm
    · rw [h1] at ho
      injection ho with ho
      subst ho
      rw [ex]; rfl
theorem Add_sp {b m1 m2 m3 : Nat} {n per : Int} {sp : List SpE} {fi : List FiE} {co : List (Int × Int)} (hm c : Int) (l : List Int) (w : World) (h : SetsG w b m1 m2 m3 n per sp fi co) (hp : 1 ≤ per) (hn : 1 ≤ n) (hnp : n * per ≤ 4194304) (hr : 0 ≤ hm ∧ hm < n ∧ 0 ≤ c ∧ c < n * per) (hne : hm ≠ c / per)
    (hco : getM (coM co) (hm, c / per) = none) (hfi : getM (fiM fi) (hm, c / per) = none) (hl : (spGet sp (hm, c / per) = none ∧ l = []) ∨ ∃ o, spGet sp (hm, c / per) = some o ∧ o.l = l) (hc : c ∉ l) (h4 : l.length < 4) :
    CallC Pr f_remset_Sets_Add [.pointer (some ⟨b, 0, none⟩), .int .i64 hm, .int .i64 c] w (fun v w' => v = .tuple #[.bool true, .int .i64 0] ∧ (∃ e : SpE, e.k = (hm, c / per) ∧ e.l = l ++ [c] ∧ SetsG w' b m1 m2 m3 n per (putSp sp e) fi co ∧ ((∃ o, spGet sp (hm, c / per) = some o ∧ e.g = o.g) ∨ w.heap.size ≤ e.g)) ∧
      Fr (fun x => x = m1 ∨ ∃ o, spGet sp (hm, c / per) = some o ∧ x = o.g) w w') := by
  refine call_sound T_ok fun_remset_Sets_Add rfl (by kernel_rfl) rfl (Kp ?_)
  refine CallC_intro (rkey_spec hm c w h.tab hp hn hnp) (fun v w1 ⟨hv, f1⟩ => ?_)
  have hv : v = .tuple #[pairV (hm, c / per), .int .i64 0] := by
    rcases hv with ⟨_, _, _, _, hv⟩ | ⟨hn', _⟩
    · exact hv
    · exact absurd hr hn'
  subst hv
  refine NewC_blk (fun p w2 hp2 h2 f2 s2 => ?_)
  refine StN_blk h2 rfl (Nat.le_of_ble_eq_true rfl) (fun w3 h3 f3 s3 => ?_)
  have h3 : Blk w3 p t_remset_pair (pairL (hm, c / per)) := h3
  have f13 : Fr No w1 w3 := f2.new f3 (fun _ _ e => e) (fun k e => by omega)
  have F3 := f1.no f13
  have H3 := h.keep F3 (fun _ _ => id) (fun _ _ => id)
  refine LdC_blk h3 rfl ?_
  refine LdC_blk h3 rfl ?_
  refine Br_df hne ?_
  obtain ⟨k, hk⟩ : ∃ k, k = (hm, c / per) := ⟨_, rfl⟩
  rw [← hk] at h3 hco hfi hl ⊢
  refine AnyC_plan T_ok mixed (planO [0,1,2,3,4,1005,6]) (Old w3) (by kernel_rfl) (by kernel_rfl) (fun _ _ => rfl) (Kp ?_)
  refine LdS_blk H3.tab rfl ?_
  refine LdSN_blk (vs := pairL k) h3 rfl rfl ?_
  refine ⟨?_, trivial⟩
  refine LookN T_ok (kv := pairV) rfl keyP zv_bool (H3.map3.keep (Fr.drew w3) id) k (v := .bool false) (by rw [hco]; rfl) ?_
  refine Sd_intro (fun _ _ => rfl) ?_
  have H4 := H3.keep (Fr.drew w3) (fun _ _ => id) (fun _ _ => id)
  have h4' := h3.keep (Fr.drew w3) id
  refine AnyC_plan T_ok mixed (planO [0,1,2,3,4,1005,6]) (Old w3.drew) (by kernel_rfl) (by kernel_rfl) (fun _ _ => rfl) (Kp ?_)
  refine LdS_blk H4.tab rfl ?_
  refine LdSN_blk (vs := pairL k) h4' rfl rfl ?_
  refine ⟨?_, trivial⟩
  refine LookN T_ok (kv := pairV) rfl keyP zv_p_bits_Set (H4.map2.keep (Fr.drew w3.drew) id) k (v := .pointer none) (by rw [hfi]; rfl) ?_
  refine Sd_intro (fun _ _ => rfl) ?_
  have H5 := H4.keep (Fr.drew w3.drew) (fun _ _ => id) (fun _ _ => id)
  have h5' := h4'.keep (Fr.drew w3.drew) id
  obtain ⟨a, cp, hv, hown, hblk⟩ := sp_row H5 k hl
  refine AnyC_plan T_ok mixed (planO [0,1,2,3,4,1005,6]) (Old w3.drew.drew) (by kernel_rfl) (by kernel_rfl) (fun _ _ => rfl) (Kp ?_)
  refine LdS_blk H5.tab rfl ?_
  refine LdSN_blk (vs := pairL k) h5' rfl rfl ?_
  refine ⟨?_, trivial⟩
  refine LookN T_ok (kv := pairV) rfl keyP zv_s_int (H5.map1.keep (Fr.drew w3.drew.drew) id) k hv ?_
  refine Sd_intro (fun _ _ => rfl) ?_
  have f35 : Fr No w3 w3.drew.drew.drew := ((Fr.drew w3).no (Fr.drew w3.drew)).no (Fr.drew w3.drew.drew)
  have s35 : w3.drew.drew.drew.heap.size = w3.heap.size := rfl
  generalize w3.drew.drew.drew = w6 at f35 s35 ⊢
  have H6 := H3.keep f35 (fun _ _ => id) (fun _ _ => id)
  have h6 := h3.keep f35 id
  have F6 := F3.no f35
  have hown6 : Own w6 0 (.slice a l.length cp) l := by
    obtain ⟨a2, cp2, hv2, ho2, _⟩ := sp_row H6 k hl
    rw [hv] at hv2
    injection hv2 with e1 _ e2
    rw [e1, e2]; exact ho2
  refine CallC_intro (Contains_spec (.slice a l.length cp) l c w6 hown6.ints (by omega)) (fun v w7 ⟨hv7, f7⟩ => ?_)
  subst hv7
  refine Br_df hc ?_
  refine Br_dt (show (l.length : Int) < 4 by omega) ?_
  have H7 := H6.keep f7 (fun _ _ => id) (fun _ _ => id)
  have h7 := h6.keep f7 id
  have F7 := F6.no f7
  have pb : p ∉ restB b m1 m2 m3 fi ∧ ∀ e ∈ sp, p ≠ e.g := by
    have s1 := f1.size
    refine ⟨fun hm => ?_, fun e he hp => ?_⟩
    · have := h.rest_lt p hm; omega
    · have := spV_lt (h.rows e he); omega
  refine AnyC_plan T_ok mixed (planO [0,1,2,3,4,5,6,1007,1008,1009]) (fun w' => Blk w' b t_remset_Sets (setsL n per m1 m2 m3) ∧ Blk w' p t_remset_pair (pairL k)) (by kernel_rfl) (by kernel_rfl) ⟨H7.tab.keep (Fr.drew w7) id, h7.keep (Fr.drew w7) id⟩ (Kp ?_)
  refine LdS_of (fun w' hw => hw.1) rfl ?_
  refine LdSN_of (vs := pairL k) (fun w' hw => hw.2) rfl rfl ?_
  refine ⟨?_, trivial⟩
  refine NewC_blk (fun x w8 hx h8 f8 s8 => ?_)
  have h8 : Blk w8 x t_int [.int .i64 c] := h8
  have f78 : Fr No w7 w8 := (Fr.drew w7).no f8
  have H8 := H7.keep f78 (fun _ _ => id) (fun _ _ => id)
  have hp8 := h7.keep f78 id
  refine Sd_intro ⟨H8.tab, hp8⟩ ?_
  refine ⟨?_, trivial⟩
  have own8 : w8.ownsRow 0 t_int 1 (.slice a l.length cp) l.length (ints l) := (hown6.keep f7 (fun _ _ => id)).keep f78 (fun _ _ => id)
  refine ApL T_ok (base := 0) (xs := ints l) (news := [.int .i64 c]) rfl rfl rfl (by decide) own8 (Nat.zero_le _) h8 rfl rfl rfl (by omega) (show (l.length + 1) * 8 ≤ _ by omega) (fun v' w9 own9 f9 loc => ?_)
  have own9 : w9.ownsRow 0 t_int 1 v' (l.length + 1) (ints l ++ [.int .i64 c]) := own9
  have hF9 : ∀ y, (Value.slice a l.length cp).ownBlock = some y → ∃ o, spGet sp k = some o ∧ y = o.g := fun y e => (hblk y).1 e
  have nb9 : ∀ y ∈ restB b m1 m2 m3 fi, ¬ (Value.slice a l.length cp).ownBlock = some y := fun y hy e => by
    obtain ⟨o, ho, ey⟩ := hF9 y e
    exact h.dj o (spGet_some ho).1 (by rw [← ey]; exact hy)
  have hb9 := H8.tab.keep f9 (nb9 b (by simp [restB]))
  have hp9 := hp8.keep f9 (fun e => by
    obtain ⟨o, ho, ey⟩ := hF9 p e
    exact pb.2 o (spGet_some ho).1 ey)
  refine Sd_intro ⟨hb9, hp9⟩ ?_
  refine ⟨?_, trivial⟩
  rcases own_cases own9 with ⟨_, h0, _⟩ | ⟨g, cap, cur, hv', _, hbg, htk, _⟩
  · omega
  subst hv'
  refine UpdC T_ok (kv := pairV) rfl keyP (H8.map1.keep f9 (nb9 m1 (by simp [restB]))) k _ (fun w10 hM10 f10 s10 => ?_)
  have gs : g = w8.heap.size ∨ ∃ o, spGet sp k = some o ∧ g = o.g := by
    rcases loc with e | e
    · exact .inr (hF9 g (by rw [← e]; rfl))
    · left; have e : some g = some w8.heap.size := e; injection e
  have gm : g ≠ m1 := by
    rcases gs with e | ⟨o, ho, e⟩
    · have := H8.map1.lt; omega
    · intro e2; exact h.dj o (spGet_some ho).1 (by rw [← e, e2]; simp [restB])
  have f810 : Fr (fun y => y = m1 ∨ ∃ o, spGet sp k = some o ∧ y = o.g) w8 w10 := f9.trans f10 (fun y _ e => .inr (hF9 y e)) (fun y _ e => .inl e)
  have bm : b ≠ m1 := by
    have := h.rs
    unfold restB at this
    simp only [List.nodup_cons, List.mem_cons, not_or] at this
    exact this.1.1
  have pm : p ≠ m1 := fun e => pb.1 (by rw [e]; simp [restB])
  refine Sd_intro ⟨hb9.keep f10 bm, hp9.keep f10 pm⟩ ?_
  have FF : Fr (fun y => y = m1 ∨ ∃ o, spGet sp k = some o ∧ y = o.g) w w10 := (F7.no f78).noL f810
  refine ⟨rfl, ⟨⟨k, g, cap, l ++ [c]⟩, by first | rfl | exact hk, rfl, ?_, ?_⟩, ?_⟩
  · refine h.put (e := ⟨k, g, cap, l ++ [c]⟩) FF (fun y hy => hy) ?_ ?_ ?_
    · have : spV ⟨k, g, cap, l ++ [c]⟩ = .slice (some ⟨g, 0, none⟩) (l.length + 1) cap := by unfold spV; simp
      rw [this]; exact hM10
    · show Own w10 0 (.slice (some ⟨g, 0, none⟩) (l ++ [c]).length cap) (l ++ [c])
      have := own_keepV own9 f10 (fun y e hy => by
        have e : some g = some y := e
        injection e with e
        exact gm (e.trans hy))
      unfold Own
      rw [ints_append, List.length_append]
      exact this
    · rcases gs with e | e
      · right; have := (F7.no f78).size; show w.heap.size ≤ g; omega
      · left; exact e
  · rcases gs with e | e
    · right; have := (F7.no f78).size; show w.heap.size ≤ g; omega
    · left; exact e
  · exact FF
end Go.Proofs.YtdhbpklmkibmbaaGreat
/- Layer 11 (remset): a source becomes fine, where few are. -/
namespace Go.Proofs.YtdhbpklmkibmbaaGreat
open Go.Vc

def setOf (per : Int) (l : List Int) : Nat → Bool := fun j => decide (∃ c ∈ l, (c % per).toNat = j)
def delSp (sp : List SpE) (k : Int × Int) : List SpE := sp.filter fun e => !decide (e.k = k)
theorem del_spM (sp : List SpE) (k : Int × Int) : spM (delSp sp k) = delM (spM sp) k := by
  unfold spM delSp delM
  rw [List.filter_map]; rfl
theorem put_fiM {fi : List FiE} {e : FiE} (h : idxM (fiM fi) e.k = none) : fiM (fi ++ [e]) = putM (fiM fi) e.k (.pointer (some ⟨e.f, 0, none⟩)) := by
  unfold putM; rw [h]; simp [fiM]
theorem bits_ne {w : World} {f r : Nat} {n : Int} {S : Nat → Bool} (h : IsBits w f r n S) : f ≠ r := by
  obtain ⟨ws, hw, _⟩ := h
  intro e
  have h1 := hw.tab
  have h2 := hw.row
  rw [e] at h1
  unfold Blk at h1 h2
  rw [h1] at h2
  injection h2 with h2
  injection h2 with _ h2 _
  cases h2
theorem bits_lt {w : World} {f r : Nat} {n : Int} {S : Nat → Bool} (h : IsBits w f r n S) : f < w.heap.size ∧ r < w.heap.size := by
  obtain ⟨ws, hw, _⟩ := h
  exact ⟨hw.tab.lt, hw.row.lt⟩
/-- A sparse source has become a fine one. -/
theorem SetsG.refine {w w' : World} {b m1 m2 m3 : Nat} {n per : Int} {sp : List SpE} {fi : List FiE} {co : List (Int × Int)} (h : SetsG w b m1 m2 m3 n per sp fi co) {e : FiE} {F : Nat → Prop} (f : Fr F w w')
    (hF : ∀ x, F x → x = m1 ∨ x = m2 ∨ (∃ o, spGet sp e.k = some o ∧ x = o.g)) (hM1 : MapG pairV w' m1 (delM (spM sp) e.k)) (hi : idxM (fiM fi) e.k = none) (hM2 : MapG pairV w' m2 (putM (fiM fi) e.k (.pointer (some ⟨e.f, 0, none⟩))))
    (hS : IsBits w' e.f e.r per e.S) (hf : w.heap.size ≤ e.f) (hr : w.heap.size ≤ e.r) : SetsG w' b m1 m2 m3 n per (delSp sp e.k) (fi ++ [e]) co := by
  have hrs := h.rest_lt
  have hne1 : ∀ x ∈ restB b m1 m2 m3 fi, F x → x = m1 ∨ x = m2 := by
    intro x hx hf
    rcases hF x hf with e1 | e1 | ⟨o, ho, e1⟩
    · exact .inl e1
    · exact .inr e1
    · exact absurd (by rw [← e1]; exact hx) (h.dj o (spGet_some ho).1)
  have hnd := h.rs
  unfold restB at hnd
  simp only [List.nodup_cons, List.mem_cons, not_or] at hnd
  obtain ⟨⟨n1, n2, n3, n4⟩, ⟨n5, n6, n7⟩, ⟨n8, n9⟩, n10, n11⟩ := hnd
  have hfi : ∀ y ∈ fi, (y.f ≠ m1 ∧ y.f ≠ m2) ∧ (y.r ≠ m1 ∧ y.r ≠ m2) ∧ y.f ∈ restB b m1 m2 m3 fi ∧ y.r ∈ restB b m1 m2 m3 fi := by
    intro y hy
    refine ⟨⟨fun e => n7 (List.mem_flatMap.2 ⟨y, hy, by simp [e]⟩), fun e => n9 (List.mem_flatMap.2 ⟨y, hy, by simp [e]⟩)⟩, ⟨fun e => n7 (List.mem_flatMap.2 ⟨y, hy, by simp [e]⟩), fun e => n9 (List.mem_flatMap.2 ⟨y, hy, by simp [e]⟩)⟩, ?_, ?_⟩
    · unfold restB; simp only [List.mem_cons, List.mem_flatMap]; exact .inr (.inr (.inr (.inr ⟨y, hy, by simp⟩)))
    · unfold restB; simp only [List.mem_cons, List.mem_flatMap]; exact .inr (.inr (.inr (.inr ⟨y, hy, by simp⟩)))
  have mr : ∀ x ∈ [b, m1, m2, m3], x ∈ restB b m1 m2 m3 fi := fun x hx => by
    unfold restB
    simp at hx ⊢
    rcases hx with h | h | h | h <;> simp [h]
  have rest' : restB b m1 m2 m3 (fi ++ [e]) = restB b m1 m2 m3 fi ++ [e.f, e.r] := by simp [restB]
  have nb : ∀ x ∈ restB b m1 m2 m3 fi, x ≠ m1 → x ≠ m2 → ¬ F x := fun x hx a1 a2 hf => by
    rcases hne1 x hx hf with e1 | e1
    · exact a1 e1
    · exact a2 e1
  refine ⟨h.tab.keep f (nb b (mr _ (by simp)) n1 n2), by rw [del_spM]; exact hM1, by rw [put_fiM hi]; exact hM2, h.map3.keep f (nb m3 (mr _ (by simp)) (fun e => n6 e.symm) (fun e => n8 e.symm)), fun x hx => ?_, fun y hy => ?_, ?_, ?_, fun x hx => ?_⟩
  · obtain ⟨hx1, hx2⟩ := List.mem_filter.1 hx
    have hx2 : x.k ≠ e.k := by simpa using hx2
    refine own_keepV (h.rows x hx1) f (fun k hk hf => ?_)
    injection hk with hk
    have hk : x.g = k := hk
    rcases hF k hf with e1 | e1 | ⟨o, ho, e1⟩
    · exact h.dj x hx1 (by rw [hk, e1]; exact mr _ (by simp))
    · exact h.dj x hx1 (by rw [hk, e1]; exact mr _ (by simp))
    · obtain ⟨ho1, ho2, _⟩ := spGet_some ho
      obtain ⟨i, hi', ei⟩ := List.getElem_of_mem hx1
      obtain ⟨j, hj', ej⟩ := List.getElem_of_mem ho1
      have hp := List.pairwise_iff_getElem.1 h.gs
      have hij : i ≠ j := fun c => hx2 (by subst c; rw [← ei, ej, ho2])
      rcases Nat.lt_or_gt_of_ne hij with c | c
      · exact hp i j (by simpa using hi') (by simpa using hj') c (by simp [ei, ej, hk, e1])
      · exact hp j i (by simpa using hj') (by simpa using hi') c (by simp [ei, ej, hk, e1])
  · rcases List.mem_append.1 hy with hy | hy
    · obtain ⟨a1, a2, a3, a4⟩ := hfi y hy
      exact (h.sets y hy).keep f (nb _ a3 a1.1 a1.2) (nb _ a4 a2.1 a2.2)
    · have : y = e := by simpa using hy
      rw [this]; exact hS
  · exact h.gs.sublist (List.Sublist.map _ List.filter_sublist)
  · rw [rest']
    refine List.nodup_append.2 ⟨h.rs, by simp [bits_ne hS], fun a ha b' hb' e' => ?_⟩
    have := hrs a ha
    simp at hb'
    omega
  · have hx1 := (List.mem_filter.1 hx).1
    rw [rest', List.mem_append]
    rintro (h1 | h1)
    · exact h.dj x hx1 h1
    · have := spV_lt (h.rows x hx1)
      simp at h1
      omega
theorem setOf_snoc (per : Int) (l : List Int) {i : Nat} (hi : i < l.length) : setOf per (l.take (i + 1)) = bput (setOf per (l.take i)) (l[i] % per).toNat := by
  funext j
  unfold setOf bput
  rw [List.take_add_one, List.getElem?_eq_getElem hi]
  by_cases e : j = (l[i] % per).toNat
  · rw [decide_eq_true e, Bool.true_or, decide_eq_true_iff]
    exact ⟨l[i], List.mem_append_right _ (List.mem_singleton.2 rfl), e.symm⟩
  · rw [decide_eq_false e, Bool.false_or, decide_eq_decide]
    constructor
    · rintro ⟨c, hc, ec⟩
      rcases List.mem_append.1 hc with h | h
      · exact ⟨c, h, ec⟩
      · have : c = l[i] := by simpa using h
        exact absurd (by rw [← ec, this]) e
    · rintro ⟨c, hc, ec⟩
      exact ⟨c, List.mem_append_left _ hc, ec⟩
def pairsL (l : List (Int × Int)) : List Value := l.flatMap pairL
theorem pairsL_app (l : List (Int × Int)) (x : Int × Int) : pairsL (l ++ [x]) = pairsL l ++ pairL x := by simp [pairsL]
/-- How many of a home's sources are in a list. -/
def ofHome (hm : Int) (l : List ((Int × Int) × Value)) : List ((Int × Int) × Value) := l.filter fun x => decide (x.1.1 = hm)
theorem ofHome_del {hm : Int} {l : List ((Int × Int) × Value)} {x : (Int × Int) × Value} (nd : (l.map (·.1)).Nodup) (hx : x ∈ l) : (ofHome hm l).length = (ofHome hm (delM l x.1)).length + (if x.1.1 = hm then 1 else 0) := by
  induction l with
  | nil => cases hx
  | cons y l ih =>
    rw [List.map_cons, List.nodup_cons] at nd
    by_cases e : y.1 = x.1
    · have hd : delM (y :: l) x.1 = l := by
        unfold delM
        rw [List.filter_cons, if_neg (by simp [e]), List.filter_eq_self]
        intro z hz
        simp only [Bool.not_eq_true', decide_eq_false_iff_not]
        intro e2
        exact nd.1 (List.mem_map.2 ⟨z, hz, e2.trans e.symm⟩)
      rw [hd]
      unfold ofHome
      rw [List.filter_cons, e]
      by_cases c : x.1.1 = hm
      · rw [if_pos (by simp [c]), if_pos c]; simp
      · rw [if_neg (by simp [c]), if_neg c]; simp
    · have hx' : x ∈ l := by
        rcases List.mem_cons.1 hx with h | h
        · exact absurd (by rw [h]) e
        · exact h
      have hd : delM (y :: l) x.1 = y :: delM l x.1 := by
        unfold delM
        rw [List.filter_cons, if_pos (by simp [e])]
      have h1 := ih nd.2 hx'
      rw [hd]
      unfold ofHome at h1 ⊢
      rw [List.filter_cons, List.filter_cons]
      by_cases c : y.1.1 = hm
      · rw [if_pos (by simp [c]), if_pos (by simp [c]), List.length_cons, List.length_cons, h1]; omega
      · rw [if_neg (by simp [c]), if_neg (by simp [c])]; exact h1
theorem refine_few {b m1 m2 m3 : Nat} {n per : Int} {sp : List SpE} {fi : List FiE} {co : List (Int × Int)} (k : Int × Int) (lv : Value) (l : List Int) (w0 w : World) (h : SetsG w0 b m1 m2 m3 n per sp fi co) (f0 : Fr (fun x => ∃ o, spGet sp k = some o ∧ x = o.g) w0 w) (hM1 : MapG pairV w m1 (spM sp))
    (hown : Own w 0 lv l) (hlm : ∀ x, lv.ownBlock = some x → x ≠ m1) (hl0 : ∀ c ∈ l, 0 ≤ c) (hll : l.length ≤ 1000) (hp : 1 ≤ per) (hp2 : per ≤ 4194304) (hi : idxM (fiM fi) k = none) (hfew : (ofHome k.1 (fiM fi)).length ≤ 3) :
    CallC Pr f_remset_Sets_refine [.pointer (some ⟨b, 0, none⟩), pairV k, lv] w (fun v w' => v = .tuple #[] ∧ (∃ f r, SetsG w' b m1 m2 m3 n per (delSp sp k) (fi ++ [⟨k, f, r, setOf per l⟩]) co ∧ w0.heap.size ≤ f ∧ w0.heap.size ≤ r) ∧
      Fr (fun x => x = m1 ∨ x = m2 ∨ ∃ o, spGet sp k = some o ∧ x = o.g) w0 w' ∧ Fr (fun x => x = m1 ∨ x = m2) w w') := by
  obtain ⟨a, cp, ev⟩ := own_slice hown
  subst ev
  have hnR : ∀ x ∈ restB b m1 m2 m3 fi, ¬ ∃ o, spGet sp k = some o ∧ x = o.g := fun x hx ⟨o, ho, e⟩ => h.dj o (spGet_some ho).1 (by rw [← e]; exact hx)
  have mr : ∀ x ∈ [b, m1, m2, m3], x ∈ restB b m1 m2 m3 fi := fun x hx => by
    unfold restB
    simp at hx ⊢
    rcases hx with h | h | h | h <;> simp [h]
  have hT := h.tab.keep f0 (hnR b (mr _ (by simp)))
  have hM2 := h.map2.keep f0 (hnR m2 (mr _ (by simp)))
  have hnd := h.rs
  unfold restB at hnd
  simp only [List.nodup_cons, List.mem_cons, not_or] at hnd
  obtain ⟨⟨n1, n2, n3, n4⟩, ⟨n5, n6, n7⟩, ⟨n8, n9⟩, n10, n11⟩ := hnd
  have s0 := f0.size
  have lb := h.tab.lt
  have l1 := h.map1.lt
  have l2 := h.map2.lt
  refine call_sound T_ok fun_remset_Sets_refine rfl (by kernel_rfl) rfl (Kp ?_)
  refine NewC_blk (fun p w1 hp1 h1 f1 s1 => ?_)
  have h1 : Blk w1 p t_p_remset_Sets [.pointer (some ⟨b, 0, none⟩)] := h1
  refine NewC_blk (fun q w2 hq2 h2 f2 s2 => ?_)
  have h2 : Blk w2 q t_remset_pair (pairL k) := h2
  have h1 := h1.keep f2 id
  have f02 := f1.no f2
  refine AnyC_plan T_ok mixed (planO [0,1,2,3,4,1005]) (fun w' => Blk w' p t_p_remset_Sets [.pointer (some ⟨b, 0, none⟩)] ∧ Blk w' b t_remset_Sets (setsL n per m1 m2 m3) ∧ Blk w' q t_remset_pair (pairL k)) (by kernel_rfl) (by kernel_rfl) ⟨h1.keep (Fr.drew w2) id, (hT.keep f02 id).keep (Fr.drew w2) id, h2.keep (Fr.drew w2) id⟩ (Kp ?_)
  refine LdS_of (fun w' hw => hw.1) rfl ?_
  refine LdS_of (fun w' hw => hw.2.1) rfl ?_
  refine LdSN_of (vs := pairL k) (fun w' hw => hw.2.2) rfl rfl ?_
  refine ⟨?_, trivial⟩
  refine DelC T_ok (kv := pairV) rfl keyP ((hM1.keep f02 id).keep (Fr.drew w2) id) k (fun w3 hM3 f3 s3 => ?_)
  have f3 := f3.drewL
  have hp3 := h1.keep f3 (by omega)
  have hb3 := (hT.keep f02 id).keep f3 n1
  have hq3 := h2.keep f3 (by omega)
  refine Sd_intro ⟨hp3, hb3, hq3⟩ ?_
  refine LdC_blk hp3 rfl ?_
  refine LdC_blk hb3 rfl ?_
  have s2' := f02.size
  have s3' := f3.size
  refine CallC_intro (bits_New_spec per w3 (by omega) hp2) (fun v w4 ⟨f, r, hv, hS4, f4, hf4, hr4⟩ => ?_)
  subst hv
  have F03 : Fr (fun x => x = m1 ∨ ∃ o, spGet sp k = some o ∧ x = o.g) w0 w3 := (f0.trans f02 (H := fun x => ∃ o, spGet sp k = some o ∧ x = o.g) (fun _ _ e => e) (fun _ _ e => e.elim)).trans f3 (fun _ _ e => .inr e) (fun _ _ e => .inl e)
  have fl : f < w4.heap.size ∧ r < w4.heap.size := bits_lt hS4
  have E04 : Fr (fun x => x = m1) w w4 := (f02.noL f3).trans f4 (fun _ _ e => e) (fun _ _ e => e.elim)
  have hp4 := hp3.keep f4 id
  have hb4 := hb3.keep f4 id
  have hq4 := hq3.keep f4 id
  refine LoopC_intro (α := Int) (fun i => [(27, .slice a l.length cp), (28, .int .i64 l.length), (29, .int .i64 i), (3, .pointer (some ⟨p, 0, none⟩)), (4, .pointer (some ⟨q, 0, none⟩)), (6, .pointer (some ⟨f, 0, none⟩))])
    (fun m i w5 => Fr (fun x => x = r) w4 w5 ∧ 0 ≤ i ∧ i ≤ l.length ∧ IsBits w5 f r per (setOf per (l.take i.toNat)) ∧ m = (l.length - i).toNat)
    l.length 0 ⟨rfl, rfl, rfl, rfl, rfl, rfl, trivial⟩ ⟨Fr.refl _ _, Int.le_refl _, by show (0 : Int) ≤ _; omega, ?_, by show _ = ((l.length : Int) - 0).toNat; omega⟩ (fun m i w5 hJ => Kp ?_)
  · have : setOf per (l.take (0 : Int).toNat) = fun _ => false := by
      funext j
      unfold setOf
      rw [decide_eq_false]
      rintro ⟨c, hc, _⟩
      cases hc
    rw [this]; exact hS4
  obtain ⟨f5, i0, i1, hS5, hm⟩ := hJ
  have i0 : 0 ≤ i := i0
  have i1 : i ≤ l.length := i1
  have hb5 := hb4.keep f5 (show ¬ b = r by omega)
  have hp5 := hp4.keep f5 (show ¬ p = r by omega)
  have hq5 := hq4.keep f5 (show ¬ q = r by omega)
  refine Br_dec (fun g0 => ?_) (fun g0 => ?_)
  · have g0 : i < (l.length : Int) := g0
    have hi' : i.toNat < l.length := by omega
    -- the row of the list still stands
    have hg : Own w5 0 (.slice a l.length cp) l := by
      have hk3 : Own w3 0 (.slice a l.length cp) l := own_keepV (hown.keep f02 (fun _ _ => id)) f3 (fun x hx e => hlm x hx e)
      have hk4 := hk3.keep f4 (fun _ _ => id)
      exact own_keepV hk4 f5 (fun x hx e => by have := hk3.lt x hx; omega)
    obtain ⟨ad, rfl, hc⟩ := hg.ints.cell hi'
    have hc0 := hl0 _ (List.getElem_mem hi')
    refine Sd_intro (show 0 ≤ i ∧ i < (l.length : Int) by omega) ?_
    refine LdC_intro (v := .int .i64 l[i.toNat]) (by rw [Nat.mul_one]; exact hc) ?_
    refine LdC_blk hp5 rfl ?_
    refine LdC_blk hb5 rfl ?_
    refine Sd_intro (by omega) ?_
    have em : l[i.toNat].tmod per = l[i.toNat] % per := Int.tmod_eq_emod_of_nonneg hc0
    have e0 := Int.emod_nonneg l[i.toNat] (show per ≠ 0 by omega)
    have e1 := Int.emod_lt_of_pos l[i.toNat] (show 0 < per by omega)
    refine CallC_intro (Put_spec (l[i.toNat].tmod per) w5 hS5 (by omega) (by omega)) (fun v w6 ⟨hv, hS6, f6⟩ => ?_)
    subst hv
    refine ⟨(l.length - (i + 1)).toNat, _, by omega, ?_, i + 1, rfl, f5.same f6, (show 0 ≤ i + 1 by omega), (show i + 1 ≤ (l.length : Int) by omega), ?_, rfl⟩
    · exact ⟨rfl, rfl, look_int rfl (wrap_i64 (by omega) (by omega)), rfl, rfl, rfl, trivial⟩
    · show IsBits w6 f r per (setOf per (l.take (i + 1).toNat))
      rw [show (i + 1).toNat = i.toNat + 1 by omega, setOf_snoc per l hi', ← em]; exact hS6
  have g0 : ¬ i < (l.length : Int) := g0
  have hS5 : IsBits w5 f r per (setOf per l) := by
    rw [List.take_of_length_le (by omega)] at hS5; exact hS5
  have F05 : Fr (fun x => x = m1 ∨ ∃ o, spGet sp k = some o ∧ x = o.g) w0 w5 := (F03.trans f4 (H := fun x => x = m1 ∨ ∃ o, spGet sp k = some o ∧ x = o.g) (fun _ _ e => e) (fun _ _ e => e.elim)).new f5 (fun _ _ e => e) (fun x e => by omega)
  have hM2' : MapG pairV w5 m2 (fiM fi) := h.map2.keep F05 (fun e => by
    rcases e with e | e
    · exact n5 e.symm
    · exact hnR m2 (mr _ (by simp)) e)
  have hM1' : MapG pairV w5 m1 (delM (spM sp) k) := (hM3.keep f4 id).keep f5 (show ¬ m1 = r by omega)
  have s45 := f4.size
  have s5' := f5.size
  refine AnyC_plan T_ok mixed (planO [0,1,2,3,4,5,1006]) (fun w' => Blk w' p t_p_remset_Sets [.pointer (some ⟨b, 0, none⟩)] ∧ Blk w' b t_remset_Sets (setsL n per m1 m2 m3) ∧ Blk w' q t_remset_pair (pairL k)) (by kernel_rfl) (by kernel_rfl) ⟨hp5.keep (Fr.drew w5) id, hb5.keep (Fr.drew w5) id, hq5.keep (Fr.drew w5) id⟩ (Kp ?_)
  refine LdS_of (fun w' hw => hw.1) rfl ?_
  refine LdS_of (fun w' hw => hw.2.1) rfl ?_
  refine LdSN_of (vs := pairL k) (fun w' hw => hw.2.2) rfl rfl ?_
  refine ⟨?_, trivial⟩
  refine UpdC T_ok (kv := pairV) rfl keyP (hM2'.keep (Fr.drew w5) id) k _ (fun w6 hM6 f6 s6 => ?_)
  have f6 := f6.drewL
  have hp6 := hp5.keep f6 (show ¬ p = m2 by omega)
  have hb6 := hb5.keep f6 n2
  have hq6 := hq5.keep f6 (show ¬ q = m2 by omega)
  refine Sd_intro ⟨hp6, hb6, hq6⟩ ?_
  have hS6 := hS5.keep f6 (show ¬ f = m2 by omega) (show ¬ r = m2 by omega)
  have F06 : Fr (fun x => x = m1 ∨ x = m2 ∨ ∃ o, spGet sp k = some o ∧ x = o.g) w0 w6 := F05.trans f6 (fun _ _ e => by rcases e with e | e; exact .inl e; exact .inr (.inr e)) (fun _ _ e => .inr (.inl e))
  have E06 : Fr (fun x => x = m1 ∨ x = m2) w w6 := (E04.new f5 (fun _ _ e => e) (fun x e => by omega)).trans f6 (fun _ _ e => .inl e) (fun _ _ e => .inr e)
  have G : SetsG w6 b m1 m2 m3 n per (delSp sp k) (fi ++ [⟨k, f, r, setOf per l⟩]) co := h.refine (e := ⟨k, f, r, setOf per l⟩) F06 (fun _ e => e) (hM1'.keep f6 n5) hi hM6 hS6 (by show _ ≤ f; omega) (by show _ ≤ r; omega)
  refine LdC_blk hp6 rfl ?_
  refine LdC_blk hb6 rfl ?_
  refine RangeC T_ok rfl hM6 (fun it w7 hit hI7 f7 s7 => ?_)
  have s6' := f6.size
  have hcnt : (ofHome k.1 (putM (fiM fi) k (.pointer (some ⟨f, 0, none⟩)))).length ≤ 4 := by
    unfold putM
    rw [hi]
    unfold ofHome
    rw [List.filter_append, List.length_append]
    unfold ofHome at hfew
    have : ([(k, Value.pointer (some ⟨f, 0, none⟩))].filter fun x : (Int × Int) × Value => decide (x.1.1 = k.1)).length ≤ 1 := List.length_filter_le _ _
    omega
  have hkn : ∀ {w' : World} {left : List ((Int × Int) × Value)} {cur : Option ((Int × Int) × Value)}, IterG pairV w' m2 it (putM (fiM fi) k (.pointer (some ⟨f, 0, none⟩))) left cur → (left.map (·.1)).Nodup := fun hI => by
    obtain ⟨_, es, clock, since, seen, c0, _, _, h3, _, _, _, _, _, _, h10, _⟩ := hI
    exact h3.sublist (h10.map _)
  refine LoopC_intro (α := Value) (fun av => [(52, .pointer (some ⟨it, 0, none⟩)), (4, .pointer (some ⟨q, 0, none⟩)), (10, av)])
    (fun m av w8 => Fr No w6 w8 ∧ Blk w8 q t_remset_pair (pairL k) ∧ ∃ left cur al, IterG pairV w8 m2 it (putM (fiM fi) k (.pointer (some ⟨f, 0, none⟩))) left cur ∧ w8.ownsRow w7.heap.size t_remset_pair 2 av al.length (pairsL al) ∧ al.length + (ofHome k.1 left).length ≤ 4 ∧ m = left.length)
    (putM (fiM fi) k (.pointer (some ⟨f, 0, none⟩))).length (.slice none 0 0) ⟨rfl, rfl, rfl, trivial⟩ ⟨f7, hq6.keep f7 id, _, none, [], hI7, World.ownsRow_nil _ _ _ _, by simpa using hcnt, rfl⟩ (fun m av w8 hJ => Kp ?_)
  obtain ⟨f8, hq8, left, cur, al, hI8, own8, hal, hm⟩ := hJ
  have s8 := f8.size
  refine NextC pairV_inj hI8 (fun hl => ?_) (fun x hx w9 hI9 f9 s9 => ?_)
  · obtain ⟨aa, cc, ea⟩ := own_slice own8
    subst ea
    refine Br_dt (show (al.length : Int) ≤ 4 by omega) ?_
    have G8 := G.keep f8 (fun _ _ => id) (fun _ _ => id)
    refine ⟨rfl, ⟨f, r, G8, by omega, by omega⟩, ?_, ?_⟩
    · exact F06.trans f8 (fun _ _ e => e) (fun _ _ e => e.elim)
    · exact E06.trans f8 (fun _ _ e => e) (fun _ _ e => e.elim)
  · have f69 : Fr No w6 w9 := f8.new f9 (fun _ _ e => e) (fun y e => by omega)
    have hq9 := hq8.keep f9 (show ¬ q = it by omega)
    refine EntryC hI9 ?_
    refine NewC_blk (fun pp w10 hpp h10 f10 s10 => ?_)
    refine StN_blk h10 rfl (Nat.le_of_ble_eq_true rfl) (fun w11 h11 f11 s11 => ?_)
    have h11 : Blk w11 pp t_remset_pair (pairL x.1) := h11
    have f911 : Fr No w9 w11 := f10.new f11 (fun _ _ e => e) (fun y e => by omega)
    have hq11 := hq9.keep f911 id
    have hI11 := hI9.keep f911 id id
    have F11 := f69.no f911
    have own11 := own_keep (own_keepV own8 f9 (fun y hy e => by
      have h1 := own_ge own8 y hy
      have h2 := hI7.lt
      omega)) f911 (fun _ _ => id)
    have hlt : (delM left x.1).length < left.length := by
      unfold delM
      exact List.length_filter_lt_length_iff_exists.2 ⟨x, hx, by simp⟩
    have hcd := ofHome_del (hm := k.1) (hkn hI8) hx
    refine LdC_blk h11 rfl ?_
    refine LdC_blk hq11 rfl ?_
    refine Br_dec (fun g1 => ?_) (fun g1 => ?_)
    · have g1 : x.1.1 = k.1 := g1
      rw [if_pos g1] at hcd
      refine LdN_blk (vs := pairL x.1) h11 rfl rfl ?_
      refine NewC_blk (fun qq w12 hqq h12 f12 s12 => ?_)
      have h12 : Blk w12 qq t_remset_pair (pairL x.1) := h12
      have own12 : w12.ownsRow w7.heap.size t_remset_pair 2 av al.length (pairsL al) := own_keep own11 f12 (fun _ _ => id)
      have s11' := F11.size
      have s12' := f12.size
      have s9' := f911.size
      refine ApL T_ok (base := w7.heap.size) (xs := pairsL al) (news := pairL x.1) rfl rfl rfl (by decide) own12 (by have := f8.size; have := (f7.size); have := hI8.lt; omega) h12 rfl rfl rfl (by omega) (show (al.length + 1) * 16 ≤ _ by omega) (fun v' w13 own13 f13 loc => ?_)
      have hne13 : ∀ y, av.ownBlock = some y → w7.heap.size ≤ y := fun y e => own_ge own12 y e
      refine ⟨_, _, (by rw [hm]; exact hlt), ?_, v', rfl, (F11.no f12).new f13 (fun _ _ e => e) (fun y e => by have := hne13 y e; omega), ?_, delM left x.1, some x, al ++ [x.1], ?_, ?_, ?_, rfl⟩
      · exact ⟨rfl, rfl, rfl, trivial⟩
      · exact (hq11.keep f12 id).keep f13 (fun e => by have := hne13 q e; omega)
      · exact (hI11.keep f12 id id).keep f13 (fun e => by have := hne13 m2 e; omega) (fun e => by have := hne13 it e; omega)
      · rw [List.length_append, pairsL_app]; exact own13
      · rw [List.length_append]; show al.length + 1 + _ ≤ 4; omega
    · have g1 : ¬ x.1.1 = k.1 := g1
      rw [if_neg g1] at hcd
      refine ⟨_, _, (by rw [hm]; exact hlt), ?_, av, rfl, F11, hq11, delM left x.1, some x, al, hI11, own11, by omega, rfl⟩
      exact ⟨rfl, rfl, rfl, trivial⟩
end Go.Proofs.YtdhbpklmkibmbaaGreat
/- Layer 11 (remset): Add that makes a source fine. -/
namespace Go.Proofs.YtdhbpklmkibmbaaGreat
open Go.Vc

theorem Add_refine {b m1 m2 m3 : Nat} {n per : Int} {sp : List SpE} {fi : List FiE} {co : List (Int × Int)} (hm c : Int) (l : List Int) (w : World) (h : SetsG w b m1 m2 m3 n per sp fi co) (hp : 1 ≤ per) (hn : 1 ≤ n) (hnp : n * per ≤ 4194304) (hr : 0 ≤ hm ∧ hm < n ∧ 0 ≤ c ∧ c < n * per) (hne : hm ≠ c / per)
    (hco : getM (coM co) (hm, c / per) = none) (hfi : getM (fiM fi) (hm, c / per) = none) (hl : (spGet sp (hm, c / per) = none ∧ l = []) ∨ ∃ o, spGet sp (hm, c / per) = some o ∧ o.l = l) (hc : c ∉ l) (h4 : 4 ≤ l.length) (h5 : l.length ≤ 900) (hpos : ∀ x ∈ l, 0 ≤ x) (hi : idxM (fiM fi) (hm, c / per) = none) (hfew : (ofHome hm (fiM fi)).length ≤ 3) :
    CallC Pr f_remset_Sets_Add [.pointer (some ⟨b, 0, none⟩), .int .i64 hm, .int .i64 c] w (fun v w' => v = .tuple #[.bool true, .int .i64 0] ∧ (∃ f r, SetsG w' b m1 m2 m3 n per (delSp sp (hm, c / per)) (fi ++ [⟨(hm, c / per), f, r, setOf per (l ++ [c])⟩]) co ∧ w.heap.size ≤ f ∧ w.heap.size ≤ r) ∧
      Fr (fun x => x = m1 ∨ x = m2 ∨ ∃ o, spGet sp (hm, c / per) = some o ∧ x = o.g) w w') := by
  refine call_sound T_ok fun_remset_Sets_Add rfl (by kernel_rfl) rfl (Kp ?_)
  refine CallC_intro (rkey_spec hm c w h.tab hp hn hnp) (fun v w1 ⟨hv, f1⟩ => ?_)
  have hv : v = .tuple #[pairV (hm, c / per), .int .i64 0] := by
    rcases hv with ⟨_, _, _, _, hv⟩ | ⟨hn', _⟩
    · exact hv
    · exact absurd hr hn'
  subst hv
  refine NewC_blk (fun p w2 hp2 h2 f2 s2 => ?_)
  refine StN_blk h2 rfl (Nat.le_of_ble_eq_true rfl) (fun w3 h3 f3 s3 => ?_)
  have h3 : Blk w3 p t_remset_pair (pairL (hm, c / per)) := h3
  have f13 : Fr No w1 w3 := f2.new f3 (fun _ _ e => e) (fun k e => by omega)
  have F3 := f1.no f13
  have H3 := h.keep F3 (fun _ _ => id) (fun _ _ => id)
  refine LdC_blk h3 rfl ?_
  refine LdC_blk h3 rfl ?_
  refine Br_df hne ?_
  obtain ⟨k, hk⟩ : ∃ k, k = (hm, c / per) := ⟨_, rfl⟩
  rw [← hk] at h3 hco hfi hl hi ⊢
  refine AnyC_plan T_ok mixed (planO [0,1,2,3,4,1005,6]) (Old w3) (by kernel_rfl) (by kernel_rfl) (fun _ _ => rfl) (Kp ?_)
  refine LdS_blk H3.tab rfl ?_
  refine LdSN_blk (vs := pairL k) h3 rfl rfl ?_
  refine ⟨?_, trivial⟩
  refine LookN T_ok (kv := pairV) rfl keyP zv_bool (H3.map3.keep (Fr.drew w3) id) k (v := .bool false) (by rw [hco]; rfl) ?_
  refine Sd_intro (fun _ _ => rfl) ?_
  have H4 := H3.keep (Fr.drew w3) (fun _ _ => id) (fun _ _ => id)
  have h4' := h3.keep (Fr.drew w3) id
  refine AnyC_plan T_ok mixed (planO [0,1,2,3,4,1005,6]) (Old w3.drew) (by kernel_rfl) (by kernel_rfl) (fun _ _ => rfl) (Kp ?_)
  refine LdS_blk H4.tab rfl ?_
  refine LdSN_blk (vs := pairL k) h4' rfl rfl ?_
  refine ⟨?_, trivial⟩
  refine LookN T_ok (kv := pairV) rfl keyP zv_p_bits_Set (H4.map2.keep (Fr.drew w3.drew) id) k (v := .pointer none) (by rw [hfi]; rfl) ?_
  refine Sd_intro (fun _ _ => rfl) ?_
  have H5 := H4.keep (Fr.drew w3.drew) (fun _ _ => id) (fun _ _ => id)
  have h5' := h4'.keep (Fr.drew w3.drew) id
  obtain ⟨a, cp, hv, hown, hblk⟩ := sp_row H5 k hl
  refine AnyC_plan T_ok mixed (planO [0,1,2,3,4,1005,6]) (Old w3.drew.drew) (by kernel_rfl) (by kernel_rfl) (fun _ _ => rfl) (Kp ?_)
  refine LdS_blk H5.tab rfl ?_
  refine LdSN_blk (vs := pairL k) h5' rfl rfl ?_
  refine ⟨?_, trivial⟩
  refine LookN T_ok (kv := pairV) rfl keyP zv_s_int (H5.map1.keep (Fr.drew w3.drew.drew) id) k hv ?_
  refine Sd_intro (fun _ _ => rfl) ?_
  have f35 : Fr No w3 w3.drew.drew.drew := ((Fr.drew w3).no (Fr.drew w3.drew)).no (Fr.drew w3.drew.drew)
  have s35 : w3.drew.drew.drew.heap.size = w3.heap.size := rfl
  generalize w3.drew.drew.drew = w6 at f35 s35 ⊢
  have H6 := H3.keep f35 (fun _ _ => id) (fun _ _ => id)
  have h6 := h3.keep f35 id
  have F6 := F3.no f35
  have hown6 : Own w6 0 (.slice a l.length cp) l := by
    obtain ⟨a2, cp2, hv2, ho2, _⟩ := sp_row H6 k hl
    rw [hv] at hv2
    injection hv2 with e1 _ e2
    rw [e1, e2]; exact ho2
  refine CallC_intro (Contains_spec (.slice a l.length cp) l c w6 hown6.ints (by omega)) (fun v w7 ⟨hv7, f7⟩ => ?_)
  subst hv7
  refine Br_df hc ?_
  refine Br_df (show ¬ (l.length : Int) < 4 by omega) ?_
  have H7 := H6.keep f7 (fun _ _ => id) (fun _ _ => id)
  have h7 := h6.keep f7 id
  have F7 := F6.no f7
  have pb : p ∉ restB b m1 m2 m3 fi ∧ ∀ e ∈ sp, p ≠ e.g := by
    have s1 := f1.size
    refine ⟨fun hm => ?_, fun e he hp => ?_⟩
    · have := h.rest_lt p hm; omega
    · have := spV_lt (h.rows e he); omega
  refine AnyC_plan T_ok mixed (planO [0,1,2,3,1004,1005,1006]) (fun w' => Blk w' p t_remset_pair (pairL k)) (by kernel_rfl) (by kernel_rfl) (h7.keep (Fr.drew w7) id) (Kp ?_)
  refine LdSN_of (vs := pairL k) (fun w' hw => hw) rfl rfl ?_
  refine ⟨?_, trivial⟩
  refine NewC_blk (fun x w8 hx h8 f8 s8 => ?_)
  have h8 : Blk w8 x t_int [.int .i64 c] := h8
  have f78 : Fr No w7 w8 := (Fr.drew w7).no f8
  have hp8 := h7.keep f78 id
  refine Sd_intro hp8 ?_
  refine ⟨?_, trivial⟩
  have H8 := H7.keep f78 (fun _ _ => id) (fun _ _ => id)
  have own8 : w8.ownsRow 0 t_int 1 (.slice a l.length cp) l.length (ints l) := (hown6.keep f7 (fun _ _ => id)).keep f78 (fun _ _ => id)
  refine ApL T_ok (base := 0) (xs := ints l) (news := [.int .i64 c]) rfl rfl rfl (by decide) own8 (Nat.zero_le _) h8 rfl rfl rfl (by omega) (show (l.length + 1) * 8 ≤ _ by omega) (fun v' w9 own9 f9 loc => ?_)
  have own9 : Own w9 0 v' (l ++ [c]) := by
    unfold Own
    rw [ints_append, List.length_append]; exact own9
  have hF9 : ∀ y, (Value.slice a l.length cp).ownBlock = some y → ∃ o, spGet sp k = some o ∧ y = o.g := fun y e => (hblk y).1 e
  have nb9 : ∀ y ∈ restB b m1 m2 m3 fi, ¬ (Value.slice a l.length cp).ownBlock = some y := fun y hy e => by
    obtain ⟨o, ho, ey⟩ := hF9 y e
    exact h.dj o (spGet_some ho).1 (by rw [← ey]; exact hy)
  have hp9 := hp8.keep f9 (fun e => by
    obtain ⟨o, ho, ey⟩ := hF9 p e
    exact pb.2 o (spGet_some ho).1 ey)
  refine Sd_intro hp9 ?_
  refine ⟨?_, trivial⟩
  have F8 : Fr No w w8 := F7.no f78
  have F9 : Fr (fun x => ∃ o, spGet sp k = some o ∧ x = o.g) w w9 := F8.noL (f9.weak (fun y _ e => hF9 y e))
  have k1 : k.1 = hm := by rw [hk]
  have hper : per ≤ 4194304 := by have := Int.mul_le_mul_of_nonneg_right hn (show (0 : Int) ≤ per by omega); omega
  refine CallC_intro (refine_few k v' (l ++ [c]) w w9 h F9 (H8.map1.keep f9 (nb9 m1 (by simp [restB]))) own9 (fun y e e2 => ?_) (fun y hy => ?_) (by rw [List.length_append]; show l.length + 1 ≤ 1000; omega) hp hper hi (by rw [k1]; exact hfew)) (fun v w10 ⟨_, hex, f10, g10⟩ => ?_)
  · rcases loc with e3 | e3
    · exact nb9 m1 (by simp [restB]) (by rw [← e3, e, e2])
    · rw [e3] at e
      injection e with e
      have := H8.map1.lt
      omega
  · rcases List.mem_append.1 hy with h | h
    · exact hpos y h
    · have : y = c := by simpa using h
      omega
  have hp10 : Blk w10 p t_remset_pair (pairL k) := hp9.keep g10 (fun e => by
    rcases e with e | e
    · exact pb.1 (by rw [e]; simp [restB])
    · exact pb.1 (by rw [e]; simp [restB]))
  refine Sd_intro hp10 ?_
  exact ⟨rfl, hex, f10⟩
theorem Add_shape {b m1 m2 m3 : Nat} {n per : Int} (hm c : Int) (w : World) (h : Blk w b t_remset_Sets (setsL n per m1 m2 m3)) (hp : 1 ≤ per) (hn : 1 ≤ n) (hnp : n * per ≤ 4194304) (hr : 0 ≤ hm ∧ hm < n ∧ 0 ≤ c ∧ c < n * per) (he : hm = c / per) :
    CallC Pr f_remset_Sets_Add [.pointer (some ⟨b, 0, none⟩), .int .i64 hm, .int .i64 c] w (fun v w' => v = .tuple #[.bool false, .int .i64 3] ∧ Fr No w w') := by
  refine call_sound T_ok fun_remset_Sets_Add rfl (by kernel_rfl) rfl (Kp ?_)
  refine CallC_intro (rkey_spec hm c w h hp hn hnp) (fun v w1 ⟨hv, f1⟩ => ?_)
  have hv : v = .tuple #[pairV (hm, c / per), .int .i64 0] := by
    rcases hv with ⟨_, _, _, _, hv⟩ | ⟨hn', _⟩
    · exact hv
    · exact absurd hr hn'
  subst hv
  refine NewC_blk (fun p w2 hp2 h2 f2 s2 => ?_)
  refine StN_blk h2 rfl (Nat.le_of_ble_eq_true rfl) (fun w3 h3 f3 s3 => ?_)
  have h3 : Blk w3 p t_remset_pair (pairL (hm, c / per)) := h3
  have f13 : Fr No w1 w3 := f2.new f3 (fun _ _ e => e) (fun k e => by omega)
  refine LdC_blk h3 rfl ?_
  refine LdC_blk h3 rfl ?_
  refine Br_dt he ?_
  exact ⟨rfl, f1.no f13⟩
end Go.Proofs.YtdhbpklmkibmbaaGreat
