/- Layer 14 (heap): Shape's numbers. -/
import Derived.Test.YtdhbpklmkibmbaaGreatHeapO
import Derived.Laws.OwnMore
namespace Go.Proofs.YtdhbpklmkibmbaaGreat
open Go.Vc

section
variable {κ : Type} [DecidableEq κ]
theorem getM_app {m : List (κ × Value)} {k x : κ} {v : Value} (h : getM m k = none) : getM (m ++ [(k, v)]) x = if x = k then some v else getM m x := by
  induction m with
  | nil =>
    show (if k = x then some v else none) = _
    by_cases e : x = k
    · rw [if_pos e, if_pos e.symm]
    · rw [if_neg e, if_neg (fun q => e q.symm)]; rfl
  | cons y m ih =>
    unfold getM at h
    by_cases e1 : y.1 = k
    · rw [if_pos e1] at h; cases h
    · rw [if_neg e1] at h
      show (if y.1 = x then some y.2 else getM (m ++ [(k, v)]) x) = if x = k then some v else (if y.1 = x then some y.2 else getM m x)
      rw [ih h]
      by_cases e2 : y.1 = x
      · rw [if_pos e2, if_pos e2, if_neg (fun q => e1 (e2.trans q))]
      · rw [if_neg e2, if_neg e2]
theorem putM_new {m : List (κ × Value)} {k : κ} {v : Value} (h : getM m k = none) : putM m k v = m ++ [(k, v)] := by
  unfold putM
  cases hi : idxM m k with
  | none => rfl
  | some i => obtain ⟨u, _, h2⟩ := idx_some hi; rw [h] at h2; cases h2
end
theorem keyU2 : KeyOk Pr t_api_Ref (kvI .u64) := keyU
/-- The numbers, and the order. -/
structure Tell (w : World) (base nb t6 t7 : Nat) (ov : Value) (O : List Int) : Prop where
  b6 : Blk w t6 t_map_api_Ref_uint64 [.map (some nb)]
  map : ∃ ents, MapG (kvI .u64) w nb ents ∧ ∀ r, getM ents r = if r = 0 ∨ r ∈ O then some (.int .u64 (num O r)) else none
  b7 : Blk w t7 t_s_api_Ref [ov]
  row : OwnU w base t_api_Ref ov O
  bs : base ≤ nb ∧ base ≤ t6 ∧ base ≤ t7
section
variable {w w' : World} {base nb t6 t7 : Nat} {ov : Value} {O : List Int}
theorem Tell.keep {F : Nat → Prop} (h : Tell w base nb t6 t7 ov O) (f : Fr F w w') (h6 : ¬ F t6) (hn : ¬ F nb) (h7 : ¬ F t7) (ho : ∀ k, ov.ownBlock = some k → ¬ F k) : Tell w' base nb t6 t7 ov O := by
  obtain ⟨ents, hM, hg⟩ := h.map
  exact ⟨h.b6.keep f h6, ⟨ents, hM.keep f hn, hg⟩, h.b7.keep f h7, h.row.keep f ho, h.bs⟩
theorem Tell.no (h : Tell w base nb t6 t7 ov O) (f : Fr No w w') : Tell w' base nb t6 t7 ov O := h.keep f id id id (fun _ _ => id)
theorem Tell.lt (h : Tell w base nb t6 t7 ov O) : nb < w.heap.size ∧ t6 < w.heap.size ∧ t7 < w.heap.size := by
  obtain ⟨ents, hM, _⟩ := h.map
  exact ⟨hM.lt, h.b6.lt, h.b7.lt⟩
theorem Tell.ge (h : Tell w base nb t6 t7 ov O) (k : Nat) (e : k = nb ∨ k = t7 ∨ ov.ownBlock = some k) : base ≤ k := by
  have := h.bs
  rcases e with e | e | e
  · omega
  · omega
  · exact (h.row.lt k e).1
theorem Tell.ne (h : Tell w base nb t6 t7 ov O) : t6 ≠ nb ∧ t7 ≠ nb ∧ t6 ≠ t7 ∧ ∀ k, ov.ownBlock = some k → k ≠ nb ∧ k ≠ t6 ∧ k ≠ t7 := by
  obtain ⟨ents, ⟨es, ck, hM, _⟩, _⟩ := h.map
  refine ⟨blk_map h.b6 hM, blk_map h.b7 hM, fun e => ?_, fun k hk => ?_⟩
  · have h6 := h.b6
    rw [e] at h6
    have := (h6.inj h.b7).2
    cases this
  · obtain ⟨cur, hb, _⟩ := own_blk h.row k hk
    refine ⟨blk_map hb hM, fun e => ?_, fun e => ?_⟩
    · rw [e] at hb; have := (hb.inj h.b6).2; cases this
    · rw [e] at hb; have := (hb.inj h.b7).2; cases this
/-- What else is kept: a row of one's own of another type, or an older one. -/
theorem Tell.other (h : Tell w base nb t6 t7 ov O) {base' te : Nat} {v : Value} {l : List Int} (f : Fr (fun k => k = nb ∨ k = t7 ∨ ov.ownBlock = some k) w w') (hv : OwnU w base' te v l) (h1 : te ≠ t_s_api_Ref) (hne : ∀ k, v.ownBlock = some k → ov.ownBlock ≠ some k) : OwnU w' base' te v l := by
  refine hv.keep f (fun k hk e => ?_)
  obtain ⟨cur, hb, _⟩ := own_blk hv k hk
  obtain ⟨ents, ⟨es, ck, hM, _⟩, _⟩ := h.map
  rcases e with e | e | e
  · exact blk_map hb hM e
  · rw [e] at hb; exact h1 (hb.inj h.b7).2
  · exact hne k hk e
theorem Tell.ne_u (h : Tell w base nb t6 t7 ov O) {base' : Nat} {v : Value} {l : List Int} (hv : OwnU w base' t_uint64 v l) (k : Nat) (hk : v.ownBlock = some k) : ov.ownBlock ≠ some k := fun e => by
  obtain ⟨cur, hb, _⟩ := own_blk hv k hk
  obtain ⟨cur', hb', _⟩ := own_blk h.row k e
  have := (hb.inj hb').2
  cases this
end
theorem own_apart {w : World} {b b' te te' k : Nat} {v v' : Value} {l l' : List Int} (h : OwnU w b te v l) (h' : OwnU w b' te' v' l') (ne : te ≠ te') (hk : v.ownBlock = some k) : v'.ownBlock ≠ some k := fun e => by
  obtain ⟨cur, hb, _⟩ := own_blk h k hk
  obtain ⟨cur', hb', _⟩ := own_blk h' k e
  exact ne (hb.inj hb').2
/-- A row of words is written. -/
theorem Tell.keepU {w w' : World} {base nb t6 t7 : Nat} {ov : Value} {O : List Int} (h : Tell w base nb t6 t7 ov O) {base' : Nat} {v : Value} {l : List Int} (hv : OwnU w base' t_uint64 v l) (f : Fr (fun k => v.ownBlock = some k) w w') : Tell w' base nb t6 t7 ov O := by
  obtain ⟨ents, ⟨es, ck, hM, _⟩, _⟩ := h.map
  have hh : ∀ k, v.ownBlock = some k → k ≠ nb ∧ k ≠ t6 ∧ k ≠ t7 := fun k hk => by
    obtain ⟨cur, hb, _⟩ := own_blk hv k hk
    refine ⟨blk_map hb hM, fun e => ?_, fun e => ?_⟩
    · rw [e] at hb; have := (hb.inj h.b6).2; cases this
    · rw [e] at hb; have := (hb.inj h.b7).2; cases this
  exact h.keep f (fun e => (hh t6 e).2.1 rfl) (fun e => (hh nb e).1 rfl) (fun e => (hh t7 e).2.2 rfl) (fun k hk => own_apart h.row hv (by decide) hk)
theorem num_new {O : List Int} {r : Int} (h : ¬ (r = 0 ∨ r ∈ O)) : num (O ++ [r]) r = (O.length : Int) + 1 := by
  rw [not_or] at h
  unfold num
  rw [if_neg h.1, List.idxOf_append, if_neg h.2, List.idxOf_cons_self]
  omega
theorem tell_spec {base nb t6 t7 : Nat} {ov : Value} {O : List Int} (r : Int) (w : World) (h : Tell w base nb t6 t7 ov O) (hbase : base ≤ w.heap.size) (hO : O.length ≤ 1000000000) :
    CallC Pr f_heap_Heap_Shape_1 [.int .u64 r, .pointer (some ⟨t6, 0, none⟩), .pointer (some ⟨t7, 0, none⟩)] w
      (fun v w' => v = .int .u64 (num (meet1 O r) r) ∧ ∃ ov', Tell w' base nb t6 t7 ov' (meet1 O r) ∧ (ov'.ownBlock = ov.ownBlock ∨ ∃ k, ov'.ownBlock = some k ∧ w.heap.size ≤ k) ∧ Fr (fun k => k = nb ∨ k = t7 ∨ ov.ownBlock = some k) w w') := by
  obtain ⟨ents, hM, hg⟩ := h.map
  obtain ⟨n6, n7, n67, no⟩ := h.ne
  refine call_sound T_ok fun_heap_Heap_Shape_1 rfl (by kernel_rfl) rfl (Kp ?_)
  refine LdC_blk (h.b6) rfl ?_
  refine LookC T_ok (kv := kvI .u64) rfl keyU zv_uint64 hM r true ?_
  rw [hg r]
  by_cases c : r = 0 ∨ r ∈ O
  · rw [if_pos c]
    have em : meet1 O r = O := if_pos c
    rw [em]
    exact ⟨rfl, ov, h, .inl rfl, Fr.refl _ _⟩
  · rw [if_neg c]
    have em : meet1 O r = O ++ [r] := if_neg c
    have hrow := h.row
    obtain ⟨a, cc, eov⟩ := own_slice hrow
    subst eov
    refine LdC_blk (h.b7) rfl ?_
    refine NewC_blk (fun y w1 e_y b1 f1 z1 => ?_)
    have b1 : Blk w1 y t_api_Ref (u64i [r]) := b1
    have r1 : w1.ownsRow base t_api_Ref 1 (.slice a O.length cc) O.length (u64i O) := hrow.keep f1 (fun _ _ => id)
    refine ApL T_ok (e := t_api_Ref) (base := base) (news := u64i [r]) rfl rfl rfl (by decide) r1 (by omega) b1 rfl rfl rfl (by omega) (show (O.length + 1) * 8 ≤ _ by omega) (fun v' w2 o2 f2 loc => ?_)
    obtain ⟨a2, c2, e2⟩ := own_slice o2
    subst e2
    have s1 := f1.size
    have s2 := f2.size
    have h1 := h.no f1
    have b72 := h1.b7.keep f2 (fun e => (no t7 e).2.2 rfl)
    refine StC_blk b72 rfl rfl (fun w3 b3 f3 z3 => ?_)
    have b3 : Blk w3 t7 t_s_api_Ref [.slice a2 (O.length + 1) c2] := b3
    refine LdC_blk (b3) rfl ?_
    have b63 : Blk w3 t6 t_map_api_Ref_uint64 [.map (some nb)] := (h1.b6.keep f2 (fun e => (no t6 e).2.1 rfl)).keep f3 n67
    refine LdC_blk (b63) rfl ?_
    have m3 : MapG (kvI .u64) w3 nb ents := ((hM.keep f1 id).keep f2 (fun e => (no nb e).1 rfl)).keep f3 (fun e => n7 e.symm)
    have o3 := own_keepV o2 f3 (fun k hk e => by
      have e : k = t7 := e
      rcases loc with l | l
      · rw [l] at hk; exact (no k hk).2.2 e
      · rw [l] at hk; injection hk with hk; have := h.lt.2.2; omega)
    have s3 := f3.size
    refine UpdC T_ok (kv := kvI .u64) rfl keyU m3 r _ (fun w4 m4 f4 z4 => ?_)
    have hnone : getM ents r = none := by rw [hg r, if_neg c]
    rw [putM_new hnone] at m4
    have hw : IntKind.u64.wrap ((O.length + 1 : Nat) : Int) = num (O ++ [r]) r := by rw [num_new c, wrap_u64 (by omega) (by omega)]; omega
    have o4 := own_keepV o3 f4 (fun k hk e => by
      have e : k = nb := e
      rcases loc with l | l
      · rw [l] at hk; exact (no k hk).1 e
      · rw [l] at hk; injection hk with hk; have := h.lt.1; omega)
    refine ⟨congrArg (Value.int .u64) (by rw [em]; exact hw), .slice a2 (O.length + 1) c2, ⟨b63.keep f4 n6, ⟨_, m4, fun x => ?_⟩, b3.keep f4 n7, ?_, h.bs⟩, ?_, ?_⟩
    · rw [getM_app hnone, hg x, em]
      by_cases e : x = r
      · subst e
        rw [if_pos rfl, if_pos (.inr (by simp))]
        exact congrArg (fun i => some (Value.int .u64 i)) hw
      · rw [if_neg e]
        by_cases e2 : x = 0 ∨ x ∈ O
        · rw [if_pos e2, if_pos (e2.imp id (fun q => List.mem_append_left _ q)), num_pre (List.prefix_append O [r]) e2]
        · rw [if_neg e2, if_neg]
          rintro (q | q)
          · exact e2 (.inl q)
          · rcases List.mem_append.1 q with q | q
            · exact e2 (.inr q)
            · exact e (List.mem_singleton.1 q)
    · rw [em]; exact ownU_snoc (r := [r]) o4
    · rcases loc with l | l
      · exact .inl l
      · exact .inr ⟨_, l, s1⟩
    · have f12 : Fr (fun k => (Value.slice a O.length cc).ownBlock = some k) w w2 := f1.noL f2
      have f123 : Fr (fun k => k = nb ∨ k = t7 ∨ (Value.slice a O.length cc).ownBlock = some k) w w3 := f12.trans f3 (fun _ _ e => .inr (.inr e)) (fun _ _ e => .inr (.inl e))
      exact f123.trans f4 (fun _ _ e => e) (fun _ _ e => .inl e)
end Go.Proofs.YtdhbpklmkibmbaaGreat
/- Layer 14 (heap): sums of lengths; a whole row appended. -/
namespace Go.Proofs.YtdhbpklmkibmbaaGreat
open Go.Vc

/-- append of a row of one's own. -/
theorem ApV {P : Program} {T : Tab} (hT : T.Ok P) {t ty e : Nat} {q : Rec} (ht : T.d t = .slice e) (hq : Go.Vc.look T.recs e = some q) (hz : q.zero.length = q.size) (hs : 0 < q.size)
    {w : World} {base base2 n m : Nat} {v v2 : Value} {xs news : List Value} {K : Value → World → Prop} (own : w.ownsRow base e q.size v n xs) (hbase : base ≤ w.heap.size) (own2 : w.ownsRow base2 e q.size v2 m news)
    (h1 : news.all Value.oneCell' = true) (h63 : n + m ≤ 9223372036854775807) (hbytes : (n + m) * q.bytes ≤ 140737488355328)
    (k : ∀ v' w', w'.ownsRow base e q.size v' (n + m) (xs ++ news) → Fr (fun k => v.ownBlock = some k) w w' → (v'.ownBlock = v.ownBlock ∨ v'.ownBlock = some w.heap.size) → K v' w') :
    RunC P (Builtin.append_ #[t, t] ty #[v, v2]) w K := by
  have hl : news.length = m * q.size := own2.1
  rcases own_cases own2 with ⟨rfl, h0, h2⟩ | ⟨g, cap, cur, rfl, _, hb, ht2, _⟩
  · subst h0
    subst h2
    obtain ⟨_, i, zv, hi, his, hby, hzv, hc⟩ := hT.recs e q hq
    refine RunC_intro (run_append_owned_none (P := P) (w := w) base t ty e i q.size (und_slice hT ht) hi v n xs own) (k v w ?_ (Fr.refl _ _) (.inl rfl))
    rw [List.append_nil]; exact own
  · exact ApL hT ht hq hz hs own hbase hb (by rw [List.drop_zero]; exact ht2) hl h1 h63 hbytes k
def gOf (L : List Ob) (r : Int) : GObj := match L.find? (fun o => o.at_ + 1 == r) with
  | some o => (o.refs, o.data)
  | none => ([], [])
theorem gOf_mem : ∀ {L : List Ob}, (Ks L).Nodup → ∀ o ∈ L, gOf L (o.at_ + 1) = (o.refs, o.data) := by
  intro L
  induction L with
  | nil => intro _ o ho; cases ho
  | cons b L ih =>
    intro nd o ho
    unfold Ks at nd
    rw [List.map_cons, List.nodup_cons] at nd
    unfold gOf
    by_cases e : b.at_ + 1 = o.at_ + 1
    · have : b = o := by
        rcases List.mem_cons.1 ho with h | h
        · exact h.symm
        · exact absurd (List.mem_map.2 ⟨o, h, e.symm⟩) nd.1
      rw [List.find?_cons_of_pos (by simpa using e), this]
    · rw [List.find?_cons_of_neg (by simpa using e)]
      rcases List.mem_cons.1 ho with h | h
      · rw [h] at e; exact absurd rfl e
      · exact ih nd.2 o h
theorem gOf_none {L : List Ob} {r : Int} (h : r ∉ Ks L) : gOf L r = ([], []) := by
  unfold gOf
  rw [List.find?_eq_none.2 fun o ho e => h (List.mem_map.2 ⟨o, ho, by simpa using e⟩)]
section
variable {w : World} {z : Nat → Nat} {c : Cfg} {hb : Nat} {p : HP} {s : HS}
theorem objsF_in (h : HeapAt w z c hb p s) : ∀ (n : Nat) (L : List Ob), (n : Int) ≤ c.c1 → objsF c s n = some L → ∀ o ∈ L, 0 ≤ o.at_ ∧ o.at_ + 1 + o.refs.length + o.data.length ≤ 4194304 := by
  intro n
  induction n with
  | zero =>
    intro L _ e o ho
    injection e with e
    subst e
    cases ho
  | succ n ih =>
    intro L hn e o ho
    unfold objsF at e
    split at e
    · rename_i L0 l hL hl
      injection e with e
      subst e
      rcases List.mem_append.1 ho with ho | ho
      · exact ih L0 (by omega) hL o ho
      · obtain ⟨h2, hd, h3, h4, h5⟩ := rowObs_mem ho
        obtain ⟨q1, q2, hd', q3, q4, q5⟩ := (rowS_in h (by omega) (by omega) hl).2 _ h2
        rw [h3] at q3
        injection q3 with q3
        subst q3
        have hm := row_mul h.ok (r := (n : Int)) (by omega) (by omega)
        have ho := hdr_ok h3
        have hw := h.wsl
        have hp := P_le h.ok
        refine ⟨by omega, ?_⟩
        rw [h5]
        show o.at_ + 1 + ((wordsAt _ _ _).length : Int) + ((wordsAt _ _ _).length : Int) ≤ _
        rw [wordsAt_len, wordsAt_len]
        omega
    · cases e
end
theorem sum_erase {α : Type} [DecidableEq α] (f : α → Nat) : ∀ {m : List α} {x : α}, x ∈ m → (m.map f).sum = f x + ((m.erase x).map f).sum := by
  intro m
  induction m with
  | nil => intro x h; cases h
  | cons y m ih =>
    intro x h
    by_cases e : y = x
    · subst e; rw [List.erase_cons_head]; simp
    · rw [List.erase_cons_tail (by simpa using e)]
      rcases List.mem_cons.1 h with h | h
      · exact absurd h.symm e
      · rw [List.map_cons, List.sum_cons, List.map_cons, List.sum_cons, ih h]; omega
theorem sum_sub {α : Type} [DecidableEq α] (f : α → Nat) : ∀ {l m : List α}, l.Nodup → (∀ x ∈ l, x ∈ m) → (l.map f).sum ≤ (m.map f).sum := by
  intro l
  induction l with
  | nil => intro m _ _; exact Nat.zero_le _
  | cons x l ih =>
    intro m nd h
    rw [List.nodup_cons] at nd
    have h1 := ih (m := m.erase x) nd.2 (fun r hr => (List.mem_erase_of_ne (fun e => nd.1 (by rw [← e]; exact hr))).2 (h r (List.mem_cons_of_mem _ hr)))
    rw [List.map_cons, List.sum_cons, sum_erase f (h x List.mem_cons_self)]
    omega
theorem sum_le {α : Type} {f g : α → Nat} : ∀ {l : List α}, (∀ x ∈ l, f x ≤ g x) → (l.map f).sum ≤ (l.map g).sum := by
  intro l
  induction l with
  | nil => intro _; exact Nat.le_refl _
  | cons x l ih =>
    intro h
    rw [List.map_cons, List.sum_cons, List.map_cons, List.sum_cons]
    have := h x List.mem_cons_self
    have := ih fun y hy => h y (List.mem_cons_of_mem _ hy)
    omega
theorem sum_tri (K : Nat) : ∀ n, n ≤ K + 1 → 2 * ((List.range n).map fun a => K + 1 - a).sum + n * n = n * (2 * K + 3) := by
  intro n
  induction n with
  | zero => intro _; simp
  | succ n ih =>
    intro h
    have := ih (by omega)
    rw [List.range_succ, List.map_append, List.sum_append]
    show 2 * (((List.range n).map fun a => K + 1 - a).sum + (K + 1 - n + 0)) + _ = _
    have e1 : (n + 1) * (n + 1) = n * n + 2 * n + 1 := by rw [Nat.add_mul, Nat.mul_add]; omega
    have e2 : (n + 1) * (2 * K + 3) = n * (2 * K + 3) + (2 * K + 3) := by rw [Nat.add_mul]; omega
    omega
/-- The length of all that a shape says of objects. -/
theorem shape_len {L : List Ob} (nd : (Ks L).Nodup) (hin : ∀ o ∈ L, 0 ≤ o.at_ ∧ o.at_ + 1 + o.refs.length + o.data.length ≤ 4194304) {O : List Int} (hO : O.Nodup) (hk : ∀ r ∈ O, r ∈ Ks L) (N : List Int) :
    (O.flatMap fun r => objOut N (gOf L r)).length ≤ 8796105605120 := by
  rw [List.length_flatMap]
  have e1 : (O.map fun r => (objOut N (gOf L r)).length).sum ≤ (O.map fun r => 4194304 + 1 - (r - 1).toNat).sum := by
    refine sum_le fun r hr => ?_
    obtain ⟨o, ho, e⟩ := List.mem_map.1 (hk r hr)
    rw [← e, gOf_mem nd o ho]
    have := hin o ho
    unfold objOut
    simp only [List.length_cons, List.length_append, List.length_map]
    omega
  have e2 : (O.map fun r => 4194304 + 1 - (r - 1).toNat).sum = ((O.map fun r => (r - 1).toNat).map fun a => 4194304 + 1 - a).sum := by rw [List.map_map]; rfl
  have hge : ∀ r ∈ O, 1 ≤ r ∧ r ≤ 4194304 := fun r hr => by
    obtain ⟨o, ho, e⟩ := List.mem_map.1 (hk r hr)
    have := hin o ho
    have e : o.at_ + 1 = r := e
    omega
  have e3 := sum_sub (fun a => 4194304 + 1 - a) (l := O.map fun r => (r - 1).toNat) (m := List.range 4194304) (List.pairwise_map.2 (hO.imp_of_mem fun {a b} ha hb hab e => hab (by have := hge a ha; have := hge b hb; omega))) (fun x hx => by
    obtain ⟨r, hr, e⟩ := List.mem_map.1 hx
    have := hge r hr
    exact List.mem_range.2 (by omega))
  have e4 := sum_tri 4194304 4194304 (by omega)
  rw [e2] at e1
  generalize ((List.range 4194304).map fun a => 4194304 + 1 - a).sum = S at e3 e4
  generalize ((O.map fun r => (r - 1).toNat).map fun a => 4194304 + 1 - a).sum = S2 at e1 e3
  generalize (O.map fun r => (objOut N (gOf L r)).length).sum = S3 at e1
  omega
end Go.Proofs.YtdhbpklmkibmbaaGreat
/- Layer 14 (heap): Check, Shape. -/
namespace Go.Proofs.YtdhbpklmkibmbaaGreat
open Go.Vc

theorem knownB_iff {L : List Ob} {l : List Int} : knownB L l = true ↔ ∀ r ∈ l, r = 0 ∨ r ∈ Ks L := by
  unfold knownB badB
  rw [List.all_eq_true]
  refine forall_congr' fun r => forall_congr' fun _ => ?_
  by_cases h : r = 0
  · simp [h]
  · simp [h]
theorem Check_nil (w : World) : CallC Pr f_heap_Heap_Check [.pointer none] w (fun v w' => v = .int .i64 1 ∧ Fr No w w') := by
  refine call_sound T_ok fun_heap_Heap_Check rfl (by kernel_rfl) rfl (Kp ?_)
  exact ⟨rfl, Fr.refl _ _⟩
noncomputable def chkV (c : Cfg) (s : HS) : Int := match okS c s with | some _ => 0 | none => 30
theorem Check_spec {c : Cfg} {p : HP} {hb : Nat} {z : Nat → Nat} {s : HS} {ar : Nat} (w : World) (H : HA w z c hb p s ar) :
    CallC Pr f_heap_Heap_Check [ptr hb] w (fun v w' => (∃ q, HA w' z c hb p (s.setAcc q) ar) ∧ Fr (· = p.ab) w w' ∧ v = .int .i64 (chkV c s)) := by
  refine call_sound T_ok fun_heap_Heap_Check rfl (by kernel_rfl) rfl (Kp ?_)
  refine CallC_intro (objects_spec w H) (fun v w1 ⟨h1, f1, hv⟩ => ?_)
  unfold chkV
  cases ho : okS c s with
  | none =>
    rw [ho] at hv
    have hv : v = .tuple #[.map none, .int .i64 30] := hv
    subst hv
    exact ⟨h1, f1, rfl⟩
  | some L =>
    rw [ho] at hv
    obtain ⟨mb, hv, _⟩ := hv
    subst hv
    exact ⟨h1, f1, rfl⟩
theorem Shape_nil (w : World) : CallC Pr f_heap_Heap_Shape [.pointer none] w (fun v w' => v = .tuple #[.slice none 0 0, .int .i64 1] ∧ Fr No w w') := by
  refine call_sound T_ok fun_heap_Heap_Shape rfl (by kernel_rfl) rfl (Kp ?_)
  exact ⟨rfl, Fr.refl _ _⟩
theorem Object_nil (r : Int) (w : World) : CallC Pr f_heap_Heap_Object [.pointer none, .int .u64 r] w (fun v w' => v = .tuple #[.agg hd0.L.toArray, .int .i64 1] ∧ Fr No w w') := by
  refine call_sound T_ok fun_heap_Heap_Object rfl (by kernel_rfl) rfl (Kp ?_)
  refine NewC_blk (fun y w8 e_y b8 f8 z8 => ?_)
  refine StN_blk (b8) rfl (Nat.le_of_ble_eq_true rfl) (fun w9 b9 f9 z9 => ?_)
  have b9 : Blk w9 y t_api_Header hd0.L := b9
  refine LdN_blk (vs := hd0.L) (b9) rfl rfl ?_
  exact ⟨rfl, f8.new f9 (fun _ _ e => e) (fun k e => by omega)⟩
noncomputable def shapeF (L : List Ob) (rs : List (List Int)) : List Int := shapeO (gOf L) rs (orderN (gOf L) rs L.length)
/-- What is known of an order. -/
structure OrdOk (L : List Ob) (rs : List (List Int)) (O : List Int) : Prop where
  nd : (Ks L).Nodup
  bnd : ∀ o ∈ L, 0 ≤ o.at_ ∧ o.at_ + 1 + o.refs.length + o.data.length ≤ 4194304
  ok : ∀ o ∈ L, knownB L o.refs = true
  rok : ∀ l ∈ rs, knownB L l = true
  o : O = orderN (gOf L) rs L.length
namespace OrdOk
variable {L : List Ob} {rs : List (List Int)} {O : List Int}
theorem onodup (h : OrdOk L rs O) : O.Nodup := by rw [h.o]; exact order_nodup _ _ _
theorem mem (h : OrdOk L rs O) : ∀ r ∈ O, r ∈ Ks L := by
  rw [h.o]
  refine order_all _ (R := fun r => r ∈ Ks L) (fun l hl r hr => knownB_iff.1 (h.rok l hl) r hr) (fun r hr q hq => ?_) _
  obtain ⟨o, ho, e⟩ := List.mem_map.1 hr
  have e : o.at_ + 1 = r := e
  rw [← e, gOf_mem h.nd o ho] at hq
  exact knownB_iff.1 (h.ok o ho) q hq
theorem len (h : OrdOk L rs O) : O.length ≤ L.length := by
  have := sub_len h.onodup h.mem
  unfold Ks at this
  rwa [List.length_map] at this
theorem llen (h : OrdOk L rs O) : L.length ≤ 4194304 := by
  have := sub_len (O := Ks L) (K := (List.range 4194304).map fun k : Nat => (k : Int) + 1) h.nd (fun r hr => by
    obtain ⟨o, ho, e⟩ := List.mem_map.1 hr
    have := h.bnd o ho
    exact List.mem_map.2 ⟨o.at_.toNat, List.mem_range.2 (by omega), by omega⟩)
  rw [List.length_map, List.length_range] at this
  unfold Ks at this
  rwa [List.length_map] at this
theorem obj (h : OrdOk L rs O) {r : Int} (hr : r ∈ Ks L) : ∃ o ∈ L, r = o.at_ + 1 ∧ gOf L r = (o.refs, o.data) := by
  obtain ⟨o, ho, e⟩ := List.mem_map.1 hr
  exact ⟨o, ho, e.symm, by rw [← e]; exact gOf_mem h.nd o ho⟩
theorem outlen (h : OrdOk L rs O) (i : Nat) : ((O.take i).flatMap fun r => objOut O (gOf L r)).length ≤ 8796105605120 :=
  shape_len h.nd h.bnd (h.onodup.sublist (List.take_sublist _ _)) (fun r hr => h.mem r (List.mem_of_mem_take hr)) O
end OrdOk
end Go.Proofs.YtdhbpklmkibmbaaGreat
/- Layer 14 (heap): Shape. -/
namespace Go.Proofs.YtdhbpklmkibmbaaGreat
open Go.Vc

theorem tell0 {w : World} {base nb t6 t7 : Nat} (b6 : Blk w t6 t_map_api_Ref_uint64 [.map (some nb)]) (hM : MapG (kvI .u64) w nb (putM [] 0 (.int .u64 0))) (b7 : Blk w t7 t_s_api_Ref [.slice none 0 0]) (bs : base ≤ nb ∧ base ≤ t6 ∧ base ≤ t7) :
    Tell w base nb t6 t7 (.slice none 0 0) [] := by
  refine ⟨b6, ⟨_, hM, fun r => ?_⟩, b7, OwnU.nil _ _ _, bs⟩
  show (if (0 : Int) = r then some (Value.int .u64 0) else none) = _
  by_cases e : r = 0
  · subst e; rw [if_pos rfl, if_pos (.inl rfl)]; rfl
  · rw [if_neg (fun q => e q.symm), if_neg (fun q => by rcases q with q | q; exact e q; cases q)]
set_option maxHeartbeats 2000000 in
theorem Shape_spec {c : Cfg} {p : HP} {hb : Nat} {z : Nat → Nat} {s : HS} {ar : Nat} (w : World) (H : HA w z c hb p s ar) :
    CallC Pr f_heap_Heap_Shape [ptr hb] w (fun v w' => (∃ q, HA w' z c hb p (s.setAcc q) ar) ∧ Fr (· = p.ab) w w' ∧
      match okS c s with
      | some L => ∃ out, v = .tuple #[out, .int .i64 0] ∧ OwnU w' w.heap.size t_uint64 out (shapeF L s.refs)
      | none => v = .tuple #[.slice none 0 0, .int .i64 30]) := by
  have h := H.h
  have hbsl := h.bsl
  have c3 := h.c3
  have r1 := h.ok.r1
  have r0 := h.ok.r0
  have hp := P_le h.ok
  obtain ⟨rra, rrc, er, hT⟩ := h.cells
  have nab : hb ≠ p.ab := fun e => by have := h.tabz; rw [e, H.zb] at this; cases this
  refine callU_sound T_ok fun_heap_Heap_Shape rfl (by kernel_rfl) rfl (Kp ?_)
  refine Cut_no ?_
  refine CallC_intro (objects_spec w H) (fun v wA ⟨⟨qA, HA1⟩, FA, hv⟩ => ?_)
  cases hok : okS c s with
  | none =>
    rw [hok] at hv
    have hv : v = .tuple #[.map none, .int .i64 30] := hv
    subst hv
    refine Cut_no ?_
    exact ⟨⟨qA, HA1⟩, FA, rfl⟩
  | some L =>
    rw [hok] at hv
    obtain ⟨mb, hv, A0⟩ := hv
    subst hv
    obtain ⟨hobj, hk1, hk2⟩ : objsS c s = some L ∧ (∀ o ∈ L, knownB L o.refs = true) ∧ (∀ l ∈ s.refs, knownB L l = true) := by
      unfold okS at hok
      split at hok
      · rename_i L0 hL0
        split at hok
        · rename_i hc
          injection hok with hok
          subst hok
          exact ⟨hL0, hc.1, hc.2⟩
        · cases hok
      · cases hok
    obtain ⟨O, hO⟩ : ∃ O, O = orderN (gOf L) s.refs L.length := ⟨_, rfl⟩
    have hD : OrdOk L s.refs O := ⟨A0.nodup, objsF_in h c.c1.toNat L (by omega) hobj, hk1, hk2, hO⟩
    have llen := hD.llen
    have olen := hD.len
    have zA := FA.size
    have hTA := hT.keep FA nab
    have HE : ∀ {w' : World}, Fr No wA w' → (∃ q, HA w' z c hb p (s.setAcc q) ar) ∧ Fr (· = p.ab) w w' := fun f => by
      obtain ⟨h1, h2⟩ := H.new HA1 FA f (fun k e => e.elim)
      exact ⟨⟨_, h1⟩, h2⟩
    have zA1 := HA1.h.c3
    refine Cut_no ?_
    refine NewC_map (fun nb w1 hnb m1 f1 z1 => ?_)
    refine UpdC T_ok (kv := kvI .u64) rfl keyU (MapG.new m1) 0 _ (fun w2 m2 f2 z2 => ?_)
    refine NewC_blk (fun t6 w3 e_t6 b3 f3 z3 => ?_)
    refine StC_blk (b3) rfl rfl (fun w4 b4 f4 z4 => ?_)
    have b4 : Blk w4 t6 t_map_api_Ref_uint64 [.map (some nb)] := b4
    refine NewC_blk (fun t7 w5 e_t7 b5 f5 z5 => ?_)
    have b5 : Blk w5 t7 t_s_api_Ref [.slice none 0 0] := b5
    have F2 : Fr No wA w2 := f1.new f2 (fun _ _ e => e) (fun k e => by have e : k = nb := e; omega)
    have F4 : Fr No wA w4 := (F2.no f3).new f4 (fun _ _ e => e) (fun k e => by have e : k = t6 := e; have := F2.size; omega)
    have F5 := F4.no f5
    have s2 := F2.size
    have T0 : Tell w5 wA.heap.size nb t6 t7 (.slice none 0 0) [] := tell0 (b4.keep f5 id) (((m2.keep f3 id).keep f4 (fun e => by have e : nb = t6 := e; omega)).keep f5 id) b5 (by omega)
    have oS : ∀ i, meetS [] (s.refs.take i) <+: O := fun i => by
      rw [hO]
      refine List.IsPrefix.trans ?_ (bfsF_pre _ _ _ _)
      have : meetS [] s.refs = meetS (meetS [] (s.refs.take i)) (s.refs.drop i) := by
        unfold meetS; rw [← List.foldl_append, List.take_append_drop]
      rw [this]; exact meetS_pre _ _
    -- the stacks
    refine Cut (α := Value) (fun out => [(0, ptr hb), (4, .map (some mb)), (7, .pointer (some ⟨t7, 0, none⟩)), (8, out), (9, .slice none 0 0), (10, .func (.func f_heap_Heap_Shape_1) #[] #[.pointer (some ⟨t6, 0, none⟩), .pointer (some ⟨t7, 0, none⟩)])])
      (fun out w6 => Fr No wA w6 ∧ (∃ ov, Tell w6 wA.heap.size nb t6 t7 ov (meetS [] s.refs)) ∧ OwnU w6 wA.heap.size t_uint64 out (s.refs.flatMap (rowOut O)) ∧ (s.refs.flatMap (rowOut O)).length ≤ 4160) ?_ (fun out w6 hJ => Kp ?_)
    · refine LdC_blk (hTA.keep F5 id) rfl ?_
      refine LoopC_intro (α := Int × Value) (fun x => [(0, ptr hb), (4, .map (some mb)), (7, .pointer (some ⟨t7, 0, none⟩)), (8, x.2), (9, .slice none 0 0), (10, .func (.func f_heap_Heap_Shape_1) #[] #[.pointer (some ⟨t6, 0, none⟩), .pointer (some ⟨t7, 0, none⟩)]), (36, .slice rra p.bs.length rrc), (37, .int .i64 p.bs.length), (38, .int .i64 x.1)])
        (fun m x w6 => Fr No wA w6 ∧ (∃ ov, Tell w6 wA.heap.size nb t6 t7 ov (meetS [] (s.refs.take x.1.toNat))) ∧ OwnU w6 wA.heap.size t_uint64 x.2 ((s.refs.take x.1.toNat).flatMap (rowOut O)) ∧ (((s.refs.take x.1.toNat).flatMap (rowOut O)).length : Int) ≤ 65 * x.1 ∧ 0 ≤ x.1 ∧ x.1 ≤ p.bs.length ∧ m = (p.bs.length - x.1).toNat)
        p.bs.length (0, .slice none 0 0) ⟨rfl, rfl, rfl, rfl, rfl, rfl, rfl, rfl, rfl, trivial⟩ ⟨F5, ⟨_, T0⟩, OwnU.nil _ _ _, (show (0 : Int) ≤ 65 * 0 by omega), Int.le_refl _, (show (0 : Int) ≤ p.bs.length by omega), (show p.bs.length = ((p.bs.length : Int) - 0).toNat by omega)⟩ (fun m x w6 hJ => Kp ?_)
      obtain ⟨i, out⟩ := x
      obtain ⟨F6, ⟨ov, T6⟩, own6, len6, i0, i1, hm⟩ := hJ
      have i0 : 0 ≤ i := i0
      have i1 : i ≤ (p.bs.length : Int) := i1
      have hm : m = (p.bs.length - i).toNat := hm
      have T6 : Tell w6 wA.heap.size nb t6 t7 ov (meetS [] (s.refs.take i.toNat)) := T6
      have own6 : OwnU w6 wA.heap.size t_uint64 out ((s.refs.take i.toNat).flatMap (rowOut O)) := own6
      have len6 : (((s.refs.take i.toNat).flatMap (rowOut O)).length : Int) ≤ 65 * i := len6
      have hrl := h.refl
      refine Cut_no ?_
      refine Br_dec (fun g => ?_) (fun g => ?_)
      rotate_left
      · have g : ¬ i < (p.bs.length : Int) := g
        rw [List.take_of_length_le (by omega)] at T6 own6 len6
        exact ⟨out, ⟨rfl, rfl, rfl, rfl, rfl, rfl, trivial⟩, F6, ⟨ov, T6⟩, own6, by omega⟩
      have g : i < (p.bs.length : Int) := g
      obtain ⟨⟨q6, H6⟩, G6⟩ := HE F6
      obtain ⟨gr, cap, cur, b, hvr, hgr, hcr, hbr⟩ := H6.h.root i0 g
      rw [er] at hvr
      injection hvr with e1 e2 e3
      subst e1
      obtain ⟨l, hlr⟩ : ∃ l, s.refs[i.toNat]? = some l := ⟨_, List.getElem?_eq_getElem (by omega)⟩
      obtain ⟨sv, hS, _, _⟩ := H6.h.stacks _ b l hbr hlr
      have hln := hS.n0
      have hlb := hS.b0
      have s6 := F6.size
      refine Cut_no ?_
      refine Sd_intro ((show 0 ≤ i ∧ i < (p.bs.length : Int) from ⟨i0, g⟩)) ?_
      refine LdC_idx hgr hcr ?_
      refine CallC_intro (roots_List_spec w6 hS) (fun v w7 ⟨own7, f7⟩ => ?_)
      have lt7 := own7.lt
      obtain ⟨a7, c7, e7⟩ := own_slice own7
      subst e7
      obtain ⟨ao, co, eo⟩ := own_slice own6
      subst eo
      have F7 := F6.no f7
      have T7 := T6.no f7
      have o7 := own6.keep f7 (fun _ _ => id)
      refine NewC_blk (fun y w8 e_y b8 f8 z8 => ?_)
      have b8 : Blk w8 y t_uint64 (u64i [(l.length : Int)]) := by
        have e : IntKind.u64.wrap (l.length : Int) = l.length := wrap_u64 (by omega) (by omega)
        show Blk w8 y t_uint64 [.int .u64 (l.length : Int)]
        rw [← e]; exact b8
      have o8 : w8.ownsRow wA.heap.size t_uint64 1 _ _ _ := o7.keep f8 (fun _ _ => id)
      have F8 := F7.no f8
      have s8 := F8.size
      refine ApL T_ok (e := t_uint64) (base := wA.heap.size) (news := u64i [(l.length : Int)]) rfl rfl rfl (by decide) o8 (by omega) b8 rfl rfl rfl (by omega) (show (_ + 1) * 8 ≤ _ by omega) (fun v' w9 o9 f9 loc => ?_)
      have hA : OwnU w9 wA.heap.size t_uint64 v' ((s.refs.take i.toNat).flatMap (rowOut O) ++ [(l.length : Int)]) := ownU_snoc (r := [(l.length : Int)]) o9
      have T9 := (T7.no f8).keepU (show OwnU w8 wA.heap.size t_uint64 _ _ from o8) f9
      have F9 : Fr No wA w9 := F8.new f9 (fun _ _ e => e) (fun k e => (World.ownsRow.lt o8 k e).1)
      have l9 : OwnU w9 w6.heap.size t_api_Ref (.slice a7 l.length c7) l := (own7.keep f8 (fun _ _ => id)).keep f9 (fun k hk => own_apart (own7.keep f8 (fun _ _ => id)) (show OwnU w8 wA.heap.size t_uint64 _ _ from o8) (by decide) hk)
      have hd9 : ∀ k, ov.ownBlock = some k → (Value.slice a7 l.length c7).ownBlock ≠ some k := fun k e e2 => by
        have h1 := T6.row.lt k e
        have h2 := lt7 k e2
        omega
      have etk : s.refs.take (i + 1).toNat = s.refs.take i.toNat ++ [l] := by
        rw [show (i + 1).toNat = i.toNat + 1 by omega, List.take_add_one, hlr]; rfl
      have eme : meetS [] (s.refs.take (i + 1).toNat) = meetL (meetS [] (s.refs.take i.toNat)) l := by
        rw [etk]; unfold meetS; rw [List.foldl_append]; rfl
      have hlO : meetL (meetS [] (s.refs.take i.toNat)) l <+: O := by rw [← eme]; exact oS _
      have s9 := F9.size
      refine LoopC_intro (α := Int × Value) (fun x => [(0, ptr hb), (4, .map (some mb)), (7, .pointer (some ⟨t7, 0, none⟩)), (8, x.2), (9, .slice none 0 0), (10, .func (.func f_heap_Heap_Shape_1) #[] #[.pointer (some ⟨t6, 0, none⟩), .pointer (some ⟨t7, 0, none⟩)]), (36, .slice (some ⟨gr, 0, none⟩) p.bs.length rrc), (37, .int .i64 p.bs.length), (38, .int .i64 i), (50, .slice a7 l.length c7), (51, .int .i64 l.length), (52, .int .i64 x.1)])
        (fun m x wB => Fr No wA wB ∧ (∃ ov, Tell wB wA.heap.size nb t6 t7 ov (meetL (meetS [] (s.refs.take i.toNat)) (l.take x.1.toNat)) ∧ ∀ k, ov.ownBlock = some k → (Value.slice a7 l.length c7).ownBlock ≠ some k) ∧ OwnU wB wA.heap.size t_uint64 x.2 ((s.refs.take i.toNat).flatMap (rowOut O) ++ ((l.length : Int) :: (l.take x.1.toNat).map (num O))) ∧ OwnU wB w6.heap.size t_api_Ref (.slice a7 l.length c7) l ∧ 0 ≤ x.1 ∧ x.1 ≤ l.length ∧ m = (l.length - x.1).toNat)
        l.length (0, v') ⟨rfl, rfl, rfl, rfl, rfl, rfl, rfl, rfl, rfl, rfl, rfl, rfl, trivial⟩ ⟨F9, ⟨ov, T9, hd9⟩, hA, l9, Int.le_refl _, (show (0 : Int) ≤ l.length by omega), (show l.length = ((l.length : Int) - 0).toNat by omega)⟩ (fun mB x wB hJ => Kp ?_)
      obtain ⟨j, out2⟩ := x
      obtain ⟨FB, ⟨ovB, TB, hdB⟩, oB, lB, j0, j1, hmB⟩ := hJ
      have j0 : 0 ≤ j := j0
      have j1 : j ≤ (l.length : Int) := j1
      have hmB : mB = (l.length - j).toNat := hmB
      have TB : Tell wB wA.heap.size nb t6 t7 ovB (meetL (meetS [] (s.refs.take i.toNat)) (l.take j.toNat)) := TB
      have oB : OwnU wB wA.heap.size t_uint64 out2 ((s.refs.take i.toNat).flatMap (rowOut O) ++ ((l.length : Int) :: (l.take j.toNat).map (num O))) := oB
      refine Cut_no ?_
      refine Br_dec (fun g2 => ?_) (fun g2 => ?_)
      rotate_left
      · have g2 : ¬ j < (l.length : Int) := g2
        rw [List.take_of_length_le (l := l) (show l.length ≤ j.toNat by omega)] at TB oB
        have eout : (s.refs.take (i + 1).toNat).flatMap (rowOut O) = (s.refs.take i.toNat).flatMap (rowOut O) ++ ((l.length : Int) :: l.map (num O)) := by
          rw [etk, List.flatMap_append, List.flatMap_cons, List.flatMap_nil, List.append_nil]; rfl
        refine ⟨(p.bs.length - (i + 1)).toNat, _, by omega, ?_, (i + 1, out2), rfl, FB, ⟨ovB, by rw [← eme] at TB; exact TB⟩, by rw [← eout] at oB; exact oB, ?_, (show 0 ≤ i + 1 by omega), (show i + 1 ≤ (p.bs.length : Int) by omega), rfl⟩
        · exact ⟨rfl, rfl, rfl, rfl, rfl, rfl, rfl, rfl, look_int rfl (wrap_i64 (by omega) (by omega)), trivial⟩
        · show (((s.refs.take (i + 1).toNat).flatMap (rowOut O)).length : Int) ≤ 65 * (i + 1)
          rw [eout, List.length_append, List.length_cons, List.length_map]
          omega
      have g2 : j < (l.length : Int) := g2
      obtain ⟨x, ex⟩ : ∃ x, x = l[j.toNat]'(by omega) := ⟨_, rfl⟩
      have hx : l[j.toNat]? = some x := by rw [List.getElem?_eq_getElem (by omega), ex]
      obtain ⟨a', c', ev, hc1⟩ := lB.cell
      injection ev with e1 e2 e3
      subst e1
      obtain ⟨ad, e4, hcell⟩ := hc1 _ _ hx
      subst e4
      have etj : l.take (j + 1).toNat = l.take j.toNat ++ [x] := by
        rw [show (j + 1).toNat = j.toNat + 1 by omega, List.take_add_one, hx]; rfl
      have emj : meetL (meetS [] (s.refs.take i.toNat)) (l.take (j + 1).toNat) = meet1 (meetL (meetS [] (s.refs.take i.toNat)) (l.take j.toNat)) x := by
        rw [etj]; unfold meetL; rw [List.foldl_append]; rfl
      have hpj : meetL (meetS [] (s.refs.take i.toNat)) (l.take (j + 1).toNat) <+: O := by
        refine List.IsPrefix.trans ?_ hlO
        have : meetL (meetS [] (s.refs.take i.toNat)) l = meetL (meetL (meetS [] (s.refs.take i.toNat)) (l.take (j + 1).toNat)) (l.drop (j + 1).toNat) := by
          conv => lhs; rw [← List.take_append_drop (j + 1).toNat l]
          unfold meetL; rw [List.foldl_append]
        rw [this]; exact meetL_pre _ _
      have hpj0 : (meetL (meetS [] (s.refs.take i.toNat)) (l.take j.toNat)).length ≤ O.length := by
        have h1 := (meet1_pre (meetL (meetS [] (s.refs.take i.toNat)) (l.take j.toNat)) x).length_le
        have h2 := hpj.length_le
        rw [emj] at h2
        omega
      have hnum : num (meet1 (meetL (meetS [] (s.refs.take i.toNat)) (l.take j.toNat)) x) x = num O x := by
        rw [emj] at hpj
        refine (num_pre hpj ?_).symm
        by_cases e : x = 0
        · exact .inl e
        · exact .inr (meet1_mem.2 (.inr ⟨rfl, e⟩))
      refine Cut_no ?_
      refine Sd_intro ((show 0 ≤ j ∧ j < (l.length : Int) from ⟨j0, g2⟩)) ?_
      refine LdC_intro (v := .int .u64 x) (by rw [Nat.mul_one]; exact hcell) ?_
      have sB := FB.size
      refine CallC_intro (tell_spec x wB TB sB (by omega)) (fun v wC ⟨hv, ovC, TC, loc2, fC⟩ => ?_)
      subst hv
      rw [← emj] at TC
      have oC := TB.other fC oB (by decide) (fun k hk => TB.ne_u oB k hk)
      have lC := TB.other fC lB (by decide) (fun k hk e => hdB k e hk)
      have FC : Fr No wA wC := FB.new fC (fun _ _ e => e) (fun k e => TB.ge k e)
      have hdC : ∀ k, ovC.ownBlock = some k → (Value.slice (some ad) l.length c7).ownBlock ≠ some k := fun k e e2 => by
        rcases loc2 with q | ⟨k', q, hk'⟩
        · rw [q] at e; exact hdB k e e2
        · rw [q] at e
          injection e with e
          have := lB.lt k e2
          omega
      obtain ⟨ao2, co2, eo2⟩ := own_slice oC
      subst eo2
      refine NewC_blk (fun y2 wD e_y2 bD fD zD => ?_)
      have bD : Blk wD y2 t_uint64 (u64i [num O x]) := by rw [← hnum]; exact bD
      have oD : wD.ownsRow wA.heap.size t_uint64 1 _ _ _ := oC.keep fD (fun _ _ => id)
      have FD := FC.no fD
      have sD := FD.size
      have hlen2 : ((s.refs.take i.toNat).flatMap (rowOut O) ++ ((l.length : Int) :: (l.take j.toNat).map (num O))).length ≤ 4300 := by
        rw [List.length_append, List.length_cons, List.length_map, List.length_take]
        omega
      refine ApL T_ok (e := t_uint64) (base := wA.heap.size) (news := u64i [num O x]) rfl rfl rfl (by decide) oD (by omega) bD rfl rfl rfl (by omega) (show (_ + 1) * 8 ≤ _ by omega) (fun vE wE oE fE loc3 => ?_)
      have TE := (TC.no fD).keepU (show OwnU wD wA.heap.size t_uint64 _ _ from oD) fE
      have lD := lC.keep fD (fun _ _ => id)
      refine ⟨(l.length - (j + 1)).toNat, _, by omega, ?_, (j + 1, vE), rfl, FD.new fE (fun _ _ e => e) (fun k e => (World.ownsRow.lt oD k e).1), ⟨ovC, TE, hdC⟩, ?_, lD.keep fE (fun k hk => own_apart lD (show OwnU wD wA.heap.size t_uint64 _ _ from oD) (by decide) hk), (show 0 ≤ j + 1 by omega), (show j + 1 ≤ (l.length : Int) by omega), rfl⟩
      · exact ⟨rfl, rfl, rfl, rfl, rfl, rfl, rfl, rfl, rfl, rfl, rfl, look_int rfl (wrap_i64 (by omega) (by omega)), trivial⟩
      · show OwnU wE wA.heap.size t_uint64 vE ((s.refs.take i.toNat).flatMap (rowOut O) ++ ((l.length : Int) :: (l.take (j + 1).toNat).map (num O)))
        rw [etj, List.map_append, ← List.cons_append, ← List.append_assoc]
        exact ownU_snoc (r := [num O x]) oE
    obtain ⟨F6, ⟨ov6, T6⟩, own6, len6⟩ := hJ
    obtain ⟨oa, oc, eo⟩ := own_slice own6
    -- the objects
    refine Cut (α := Value) (fun rest => [(8, out), (9, rest)])
      (fun rest w7 => Fr No wA w7 ∧ OwnU w7 wA.heap.size t_uint64 out (s.refs.flatMap (rowOut O)) ∧ OwnU w7 wA.heap.size t_uint64 rest (O.flatMap fun r => objOut O (gOf L r)) ∧ ∀ k, rest.ownBlock = some k → out.ownBlock ≠ some k) ?_ (fun rest w7 hJ => Kp ?_)
    · refine LoopC_intro (α := Int × Value) (fun x => [(4, .map (some mb)), (7, .pointer (some ⟨t7, 0, none⟩)), (8, out), (9, x.2), (10, .func (.func f_heap_Heap_Shape_1) #[] #[.pointer (some ⟨t6, 0, none⟩), .pointer (some ⟨t7, 0, none⟩)]), (16, .int .i64 x.1)])
        (fun m x w7 => Fr No wA w7 ∧ (∃ ov O', Tell w7 wA.heap.size nb t6 t7 ov O' ∧ O' <+: O ∧ x.1 ≤ O'.length ∧ bfsF (gOf L) (L.length - x.1.toNat) x.1.toNat O' = O) ∧ OwnU w7 wA.heap.size t_uint64 out (s.refs.flatMap (rowOut O)) ∧ OwnU w7 wA.heap.size t_uint64 x.2 ((O.take x.1.toNat).flatMap fun r => objOut O (gOf L r)) ∧ (∀ k, x.2.ownBlock = some k → out.ownBlock ≠ some k) ∧ 0 ≤ x.1 ∧ m = (O.length - x.1).toNat)
        O.length (0, .slice none 0 0) ⟨rfl, rfl, rfl, rfl, rfl, rfl, trivial⟩ ⟨F6, ⟨ov6, _, T6, by have := oS s.refs.length; rwa [List.take_length] at this, (show (0 : Int) ≤ _ by omega), (show bfsF (gOf L) (L.length - 0) 0 (meetS [] s.refs) = O by rw [hO]; rfl)⟩, own6, OwnU.nil _ _ _, (fun k e => by cases e), Int.le_refl _, (show O.length = ((O.length : Int) - 0).toNat by omega)⟩ (fun m x w7 hJ => Kp ?_)
      obtain ⟨i, rest⟩ := x
      obtain ⟨F7, ⟨ov7, O7, T7, hp7, hi7, hb7⟩, own7, rest7, ap7, i0, hm7⟩ := hJ
      have i0 : 0 ≤ i := i0
      have hi7 : i ≤ (O7.length : Int) := hi7
      have hb7 : bfsF (gOf L) (L.length - i.toNat) i.toNat O7 = O := hb7
      have rest7 : OwnU w7 wA.heap.size t_uint64 rest ((O.take i.toNat).flatMap fun r => objOut O (gOf L r)) := rest7
      have hm7 : m = (O.length - i).toNat := hm7
      have ap7 : ∀ k, rest.ownBlock = some k → out.ownBlock ≠ some k := ap7
      obtain ⟨va, vc, ev7⟩ := own_slice T7.row
      have b77 := T7.b7
      rw [ev7] at b77
      have hl7 := hp7.length_le
      refine Cut_no ?_
      refine LdC_blk (b77) rfl ?_
      refine Br_dec (fun g => ?_) (fun g => ?_)
      rotate_left
      · have g : ¬ i < (O7.length : Int) := g
        have e7 : O7 = O := by
          rw [← hb7]
          cases L.length - i.toNat with
          | zero => rfl
          | succ n =>
            unfold bfsF
            rw [List.getElem?_eq_none (by omega)]
        rw [e7] at g
        rw [List.take_of_length_le (by omega)] at rest7
        exact ⟨rest, ⟨rfl, rfl, trivial⟩, F7, own7, rest7, ap7⟩
      have g : i < (O7.length : Int) := g
      obtain ⟨r, hr7⟩ : ∃ r, O7[i.toNat]? = some r := ⟨_, List.getElem?_eq_getElem (by omega)⟩
      have hrO : O[i.toNat]? = some r := by
        obtain ⟨t, ht⟩ := hp7
        rw [← ht, List.getElem?_append_left (by omega)]; exact hr7
      have hrK := hD.mem r (List.mem_of_getElem? hrO)
      obtain ⟨ents, hM0, hl0⟩ := A0.look r
      obtain ⟨o, ho, er7, v7, hgv, rv, dv, ev, orv, odv⟩ : ∃ o ∈ L, r = o.at_ + 1 ∧ ∃ v, getM ents r = some v ∧ EntAt wA w.heap.size o v := by
        rcases hl0 with q | ⟨q, _⟩
        · exact q
        · exact absurd hrK q
      have hg : gOf L r = (o.refs, o.data) := by rw [er7]; exact gOf_mem hD.nd o ho
      obtain ⟨ra, rc, erv⟩ := own_slice orv
      obtain ⟨da, dc, edv⟩ := own_slice odv
      subst ev
      subst erv
      subst edv
      have hM := hM0.keep F7 id
      have hbo := hD.bnd o ho
      have hlO : i.toNat < L.length := by have := (List.getElem?_eq_some_iff.1 hrO).1; omega
      have hstep : bfsF (gOf L) (L.length - (i + 1).toNat) (i + 1).toNat (meetL O7 o.refs) = O := by
        rw [show L.length - i.toNat = (L.length - (i + 1).toNat) + 1 by omega] at hb7
        unfold bfsF at hb7
        rw [hr7] at hb7
        have hb7 : bfsF (gOf L) (L.length - (i + 1).toNat) (i.toNat + 1) (meetL O7 (gOf L r).1) = O := hb7
        rw [hg, show i.toNat + 1 = (i + 1).toNat by omega] at hb7
        exact hb7
      have hmp : meetL O7 o.refs <+: O := by
        have := bfsF_pre (gOf L) (L.length - (i + 1).toNat) (i + 1).toNat (meetL O7 o.refs)
        rwa [hstep] at this
      have hcell7 : ∃ x, va = some x ∧ w7.cell? (x.add i.toNat) = some (.int .u64 r) := by
        obtain ⟨a', c', e1, e2⟩ := T7.row.cell
        rw [ev7] at e1
        injection e1 with e1
        subst e1
        exact e2 _ _ hr7
      obtain ⟨ad7, ead7, hc7⟩ := hcell7
      subst ead7
      have s7 := F7.size
      have iB : O7.length ≤ 4194304 := by omega
      refine Cut_no ?_
      refine LdC_blk (b77) rfl ?_
      refine Sd_intro ((show 0 ≤ i ∧ i < (O7.length : Int) from ⟨i0, g⟩)) ?_
      refine LdC_intro (v := .int .u64 r) (by rw [Nat.mul_one]; exact hc7) ?_
      refine LookC T_ok (kv := kvI .u64) rfl keyU zv_heap_object hM r false ?_
      rw [hgv]
      refine NewC_blk (fun y w8 e_y b8 f8 z8 => ?_)
      refine StN_blk (b8) rfl (Nat.le_of_ble_eq_true rfl) (fun w9 b9 f9 z9 => ?_)
      have b9 : Blk w9 y t_heap_object [.int .i64 o.at_, .slice ra o.refs.length rc, .slice da o.data.length dc] := b9
      have f79 : Fr No w7 w9 := f8.new f9 (fun _ _ e => e) (fun k e => by omega)
      have F9 := F7.no f79
      have T9 := T7.no f79
      have own9 := own7.keep f79 (fun _ _ => id)
      have rest9 := rest7.keep f79 (fun _ _ => id)
      obtain ⟨qa, qc, eq⟩ := own_slice rest9
      subst eq
      refine LdC_blk (b9) rfl ?_
      refine LdC_blk (b9) rfl ?_
      refine NewC_blk (fun y2 wB e_y2 bB fB zB => ?_)
      have bB : Blk wB y2 t_uint64 (u64i [(o.refs.length : Int), (o.data.length : Int)]) := by
        have e1 : IntKind.u64.wrap (o.refs.length : Int) = o.refs.length := wrap_u64 (by omega) (by omega)
        have e2 : IntKind.u64.wrap (o.data.length : Int) = o.data.length := wrap_u64 (by omega) (by omega)
        show Blk wB y2 t_uint64 [.int .u64 (o.refs.length : Int), .int .u64 (o.data.length : Int)]
        rw [← e1, ← e2]; exact bB
      have oB : wB.ownsRow wA.heap.size t_uint64 1 _ _ _ := rest9.keep fB (fun _ _ => id)
      have FB := F9.no fB
      have sB := FB.size
      have hol := hD.outlen i.toNat
      refine ApL T_ok (e := t_uint64) (base := wA.heap.size) (news := u64i [(o.refs.length : Int), (o.data.length : Int)]) rfl rfl rfl (by decide) oB (by omega) bB rfl rfl rfl (by omega) (show (_ + 2) * 8 ≤ _ by omega) (fun vC wC oC fC loc => ?_)
      have TC := (T9.no fB).keepU (show OwnU wB wA.heap.size t_uint64 _ _ from oB) fC
      have ownB := own9.keep fB (fun _ _ => id)
      have ownC := ownB.keep fC (fun k hk e => ap7 k e hk)
      have apC : ∀ k, vC.ownBlock = some k → out.ownBlock ≠ some k := fun k e e2 => by
        rcases loc with q | q
        · rw [q] at e; exact ap7 k e e2
        · rw [q] at e; injection e with e; have := ownB.lt k e2; omega
      have FC : Fr No wA wC := FB.new fC (fun _ _ e => e) (fun k e => (World.ownsRow.lt oB k e).1)
      have hrC : OwnU wC wA.heap.size t_uint64 vC (((O.take i.toNat).flatMap fun r => objOut O (gOf L r)) ++ [(o.refs.length : Int), (o.data.length : Int)]) := ownU_snoc (r := [(o.refs.length : Int), (o.data.length : Int)]) oC
      have bC : Blk wC y t_heap_object [.int .i64 o.at_, .slice ra o.refs.length rc, .slice da o.data.length dc] := (b9.keep fB id).keep fC (fun e => by
        have h1 := rest7.lt y e
        omega)
      have oyC : y < wC.heap.size := bC.lt
      have hfix : ((((O.take i.toNat).flatMap fun r => objOut O (gOf L r)) ++ [(o.refs.length : Int), (o.data.length : Int)]).length) ≤ 8796105605200 := by
        rw [List.length_append]; show _ + 2 ≤ _; omega
      obtain ⟨X, hX⟩ : ∃ X, X = ((O.take i.toNat).flatMap fun r => objOut O (gOf L r)) ++ [(o.refs.length : Int), (o.data.length : Int)] := ⟨_, rfl⟩
      rw [← hX] at hrC hfix
      have dC : ∀ k, y = k → vC.ownBlock ≠ some k := fun k e e2 => by
        subst e
        rcases loc with q | q
        · rw [q] at e2; have := rest7.lt _ e2; omega
        · rw [q] at e2; injection e2 with e2; have := fB.size; have := bB.lt; have := b9.lt; omega
      refine Cut_no ?_
      refine LdC_blk (bC) rfl ?_
      refine LoopC_intro (α := Int × Value) (fun x => [(4, .map (some mb)), (7, .pointer (some ⟨t7, 0, none⟩)), (8, out), (9, x.2), (10, .func (.func f_heap_Heap_Shape_1) #[] #[.pointer (some ⟨t6, 0, none⟩), .pointer (some ⟨t7, 0, none⟩)]), (16, .int .i64 i), (17, .pointer (some ⟨y, 0, none⟩)), (88, .slice ra o.refs.length rc), (89, .int .i64 o.refs.length), (90, .int .i64 x.1)])
        (fun m x wD => Fr No wA wD ∧ Fr (fun k => k ≠ y) wC wD ∧ (∃ ov, Tell wD wA.heap.size nb t6 t7 ov (meetL O7 (o.refs.take x.1.toNat))) ∧ OwnU wD wA.heap.size t_uint64 out (s.refs.flatMap (rowOut O)) ∧ OwnU wD wA.heap.size t_uint64 x.2 (X ++ (o.refs.take x.1.toNat).map (num O)) ∧ (∀ k, x.2.ownBlock = some k → out.ownBlock ≠ some k) ∧ x.2.ownBlock ≠ some y ∧ 0 ≤ x.1 ∧ x.1 ≤ o.refs.length ∧ m = (o.refs.length - x.1).toNat)
        o.refs.length (0, vC) ⟨rfl, rfl, rfl, rfl, rfl, rfl, rfl, rfl, rfl, rfl, trivial⟩ ⟨FC, Fr.refl _ _, ⟨ov7, TC⟩, ownC, (by simpa using hrC), apC, dC y rfl, Int.le_refl _, (show (0 : Int) ≤ o.refs.length by omega), (show o.refs.length = ((o.refs.length : Int) - 0).toNat by omega)⟩ (fun mD x wD hJ => Kp ?_)
      obtain ⟨j, rest2⟩ := x
      obtain ⟨FD, fCD, ⟨ovD, TD⟩, ownD, restD, apD, yD, j0, j1, hmD⟩ := hJ
      have j0 : 0 ≤ j := j0
      have j1 : j ≤ (o.refs.length : Int) := j1
      have hmD : mD = (o.refs.length - j).toNat := hmD
      have TD : Tell wD wA.heap.size nb t6 t7 ovD (meetL O7 (o.refs.take j.toNat)) := TD
      have restD : OwnU wD wA.heap.size t_uint64 rest2 (X ++ (o.refs.take j.toNat).map (num O)) := restD
      have apD : ∀ k, rest2.ownBlock = some k → out.ownBlock ≠ some k := apD
      have yD : rest2.ownBlock ≠ some y := yD
      have bD : Blk wD y t_heap_object [.int .i64 o.at_, .slice ra o.refs.length rc, .slice da o.data.length dc] := bC.keep fCD (fun e => e rfl)
      have hfD : (X ++ (o.refs.take j.toNat).map (num O)).length ≤ 8796105605200 + 4194304 := by
        rw [List.length_append, List.length_map, List.length_take]; omega
      refine Cut_no ?_
      refine Br_dec (fun g2 => ?_) (fun g2 => ?_)
      rotate_left
      · have g2 : ¬ j < (o.refs.length : Int) := g2
        rw [List.take_of_length_le (l := o.refs) (show o.refs.length ≤ j.toNat by omega)] at TD restD
        have TDr := TD
        have odD : OwnU wD w.heap.size t_uint64 (.slice da o.data.length dc) o.data := odv.keep FD (fun _ _ => id)
        have sD := FD.size
        obtain ⟨ao2, co2, eo2⟩ := own_slice restD
        subst eo2
        have hfD : (X ++ o.refs.map (num O)).length ≤ 8796105605200 + 4194304 := by
          rw [List.length_append, List.length_map]; omega
        have rD0 : wD.ownsRow wA.heap.size t_uint64 1 _ _ _ := restD
        refine LdC_blk (bD) rfl ?_
        refine ApV T_ok (e := t_uint64) (base := wA.heap.size) rfl rfl rfl (by decide) rD0 (by omega) (show wD.ownsRow w.heap.size t_uint64 1 _ _ _ from odD) (u64i_one _) (by omega) (show (_ + _) * 8 ≤ _ by omega) (fun vE wE rE fE loc3 => ?_)
        have TE := TDr.keepU (show OwnU wD wA.heap.size t_uint64 _ _ from rD0) fE
        have hO1 := (List.getElem?_eq_some_iff.1 hrO).1
        have hm1 := (meetL_pre o.refs O7).length_le
        have eout : ((O.take (i + 1).toNat).flatMap fun r => objOut O (gOf L r)) = (X ++ o.refs.map (num O)) ++ o.data := by
          rw [show (i + 1).toNat = i.toNat + 1 by omega, List.take_add_one, hrO, hX, List.flatMap_append]
          show _ ++ List.flatMap _ [r] = _
          rw [List.flatMap_cons, List.flatMap_nil, List.append_nil, hg]
          unfold objOut
          simp
        refine ⟨(O.length - (i + 1)).toNat, _, by omega, ?_, (i + 1, vE), rfl, FD.new fE (fun _ _ e => e) (fun k e => (World.ownsRow.lt rD0 k e).1), ⟨ovD, _, TE, hmp, (show i + 1 ≤ ((meetL O7 o.refs).length : Int) by omega), hstep⟩, ownD.keep fE (fun k hk e => apD k e hk), ?_, ?_, (show 0 ≤ i + 1 by omega), rfl⟩
        · exact ⟨rfl, rfl, rfl, rfl, rfl, look_int rfl (wrap_i64 (by omega) (by omega)), trivial⟩
        · show OwnU wE wA.heap.size t_uint64 vE ((O.take (i + 1).toNat).flatMap fun r => objOut O (gOf L r))
          rw [eout]
          exact ownU_snoc rE
        · show ∀ k, vE.ownBlock = some k → out.ownBlock ≠ some k
          intro k e e2
          rcases loc3 with q | q
          · rw [q] at e; exact apD k e e2
          · rw [q] at e; injection e with e; have := ownD.lt k e2; omega
      have g2 : j < (o.refs.length : Int) := g2
      obtain ⟨x, ex⟩ : ∃ x, x = o.refs[j.toNat]'(by omega) := ⟨_, rfl⟩
      have hx : o.refs[j.toNat]? = some x := by rw [List.getElem?_eq_getElem (by omega), ex]
      have orD : OwnU wD w.heap.size t_api_Ref (.slice ra o.refs.length rc) o.refs := orv.keep FD (fun _ _ => id)
      obtain ⟨a', c', ev, hc1⟩ := orD.cell
      injection ev with e1 e2 e3
      subst e1
      obtain ⟨ad, e4, hcell⟩ := hc1 _ _ hx
      subst e4
      have etj : o.refs.take (j + 1).toNat = o.refs.take j.toNat ++ [x] := by
        rw [show (j + 1).toNat = j.toNat + 1 by omega, List.take_add_one, hx]; rfl
      have emj : meetL O7 (o.refs.take (j + 1).toNat) = meet1 (meetL O7 (o.refs.take j.toNat)) x := by
        rw [etj]; unfold meetL; rw [List.foldl_append]; rfl
      have hpj : meetL O7 (o.refs.take (j + 1).toNat) <+: O := by
        refine List.IsPrefix.trans ?_ hmp
        have : meetL O7 o.refs = meetL (meetL O7 (o.refs.take (j + 1).toNat)) (o.refs.drop (j + 1).toNat) := by
          conv => lhs; rw [← List.take_append_drop (j + 1).toNat o.refs]
          unfold meetL; rw [List.foldl_append]
        rw [this]; exact meetL_pre _ _
      have hpj0 : (meetL O7 (o.refs.take j.toNat)).length ≤ O.length := by
        have h1 := (meet1_pre (meetL O7 (o.refs.take j.toNat)) x).length_le
        have h2 := hpj.length_le
        rw [emj] at h2
        omega
      have hnum : num (meet1 (meetL O7 (o.refs.take j.toNat)) x) x = num O x := by
        rw [emj] at hpj
        refine (num_pre hpj ?_).symm
        by_cases e : x = 0
        · exact .inl e
        · exact .inr (meet1_mem.2 (.inr ⟨rfl, e⟩))
      refine Cut_no ?_
      refine Sd_intro ((show 0 ≤ j ∧ j < (o.refs.length : Int) from ⟨j0, g2⟩)) ?_
      refine LdC_intro (v := .int .u64 x) (by rw [Nat.mul_one]; exact hcell) ?_
      have sD := FD.size
      refine CallC_intro (tell_spec x wD TD sD (by omega)) (fun v wE ⟨hv, ovE, TE, loc2, fE⟩ => ?_)
      subst hv
      rw [← emj] at TE
      have rE := TD.other fE restD (by decide) (fun k hk => TD.ne_u restD k hk)
      have oE := TD.other fE ownD (by decide) (fun k hk => TD.ne_u ownD k hk)
      have FE : Fr No wA wE := FD.new fE (fun _ _ e => e) (fun k e => TD.ge k e)
      have fCE : Fr (fun k => k ≠ y) wC wE := fCD.trans fE (fun _ _ e => e) (fun k _ e e2 => by
        subst e2
        obtain ⟨entsD, ⟨es, ck, hMD, _⟩, _⟩ := TD.map
        rcases e with e | e | e
        · exact blk_map bD hMD e
        · have h1 := TD.b7
          rw [← e] at h1
          have := (bD.inj h1).2
          cases this
        · obtain ⟨cur, hb1, _⟩ := own_blk TD.row _ e
          have := (bD.inj hb1).2
          cases this)
      obtain ⟨ao2, co2, eo2⟩ := own_slice rE
      subst eo2
      refine NewC_blk (fun y3 wG e_y3 bG fG zG => ?_)
      have bG : Blk wG y3 t_uint64 (u64i [num O x]) := by rw [← hnum]; exact bG
      have rG : wG.ownsRow wA.heap.size t_uint64 1 _ _ _ := rE.keep fG (fun _ _ => id)
      have FG := FE.no fG
      have sG := FG.size
      have oG := oE.keep fG (fun _ _ => id)
      refine ApL T_ok (e := t_uint64) (base := wA.heap.size) (news := u64i [num O x]) rfl rfl rfl (by decide) rG (by omega) bG rfl rfl rfl (by omega) (show (_ + 1) * 8 ≤ _ by omega) (fun vI wI rI fI loc3 => ?_)
      have TI := (TE.no fG).keepU (show OwnU wG wA.heap.size t_uint64 _ _ from rG) fI
      refine ⟨(o.refs.length - (j + 1)).toNat, _, by omega, ?_, (j + 1, vI), rfl, FG.new fI (fun _ _ e => e) (fun k e => (World.ownsRow.lt rG k e).1), ?_, ⟨ovE, TI⟩, oG.keep fI (fun k hk e => apD k e hk), ?_, ?_, ?_, (show 0 ≤ j + 1 by omega), (show j + 1 ≤ (o.refs.length : Int) by omega), rfl⟩
      · exact ⟨rfl, rfl, rfl, rfl, rfl, rfl, rfl, rfl, rfl, look_int rfl (wrap_i64 (by omega) (by omega)), trivial⟩
      · exact (fCE.noR fG).trans fI (fun _ _ e => e) (fun k _ e e2 => by subst e2; exact yD e)
      · show OwnU wI wA.heap.size t_uint64 vI (X ++ (o.refs.take (j + 1).toNat).map (num O))
        rw [etj, List.map_append, ← List.append_assoc]
        exact ownU_snoc (r := [num O x]) rI
      · show ∀ k, vI.ownBlock = some k → out.ownBlock ≠ some k
        intro k e e2
        rcases loc3 with q | q
        · rw [q] at e; exact apD k e e2
        · rw [q] at e; injection e with e; have := oG.lt k e2; omega
      · show vI.ownBlock ≠ some y
        intro e
        rcases loc3 with q | q
        · rw [q] at e; exact yD e
        · rw [q] at e; injection e with e; have := fCE.size; have := fG.size; omega
    obtain ⟨F7, own7, rest7, ap7⟩ := hJ
    have s7 := F7.size
    have hol := hD.outlen O.length
    rw [List.take_length] at hol
    subst eo
    obtain ⟨qa, qc, eq⟩ := own_slice rest7
    subst eq
    have o0 : w7.ownsRow wA.heap.size t_uint64 1 _ _ _ := own7
    refine ApV T_ok (e := t_uint64) (base := wA.heap.size) rfl rfl rfl (by decide) o0 (by omega) (show w7.ownsRow wA.heap.size t_uint64 1 _ _ _ from rest7) (u64i_one _) (by omega) (show (_ + _) * 8 ≤ _ by omega) (fun vE wE rE fE loc3 => ?_)
    have FE : Fr No wA wE := F7.new fE (fun _ _ e => e) (fun k e => (World.ownsRow.lt o0 k e).1)
    obtain ⟨h1, h2⟩ := HE FE
    refine ⟨h1, h2, ?_⟩
    refine ⟨vE, rfl, ?_⟩
    have : OwnU wE wA.heap.size t_uint64 vE (shapeF L s.refs) := by
      unfold shapeF shapeO
      rw [← hO]
      exact ownU_snoc rE
    exact own_low this zA
end Go.Proofs.YtdhbpklmkibmbaaGreat
