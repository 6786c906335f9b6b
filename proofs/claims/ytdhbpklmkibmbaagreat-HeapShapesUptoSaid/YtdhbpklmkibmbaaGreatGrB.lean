/- A plan's graph is built. -/
import Derived.Test.YtdhbpklmkibmbaaGreatGrS
namespace Go.Proofs.YtdhbpklmkibmbaaGreat
open Go.Vc

def obP (t : Th) : GObj := (t.refs, t.data)
/-- A row of nothing, newly laid. -/
theorem own_empty {w : World} {base b : Nat} (h : Blk w b t_uint64 []) (hb : base ≤ b) : OwnU w base t_uint64 (.slice (some ⟨b, 0, none⟩) 0 0) [] := by
  refine ⟨rfl, .inr ⟨b, 0, #[], rfl, hb, ?_, Nat.le_refl _, by decide, rfl, rfl⟩⟩
  unfold Blk at h
  exact h
theorem ref12_Push_spec {b : Nat} {v : Value} {bound : Int} {l : List Int} (x : Int) (w : World) (h : IsRoots w b v bound l) (hn : (l.length : Int) < bound) :
    CallC Pr f_gleanerref12_Stack_Push [.pointer (some ⟨b, 0, none⟩), .int .u64 x] w
      (fun u w' => u = .int .i64 0 ∧ ∃ v', IsRoots w' b v' bound (l ++ [x]) ∧ (v'.ownBlock = v.ownBlock ∨ ∃ k, v'.ownBlock = some k ∧ w.heap.size ≤ k) ∧ Fr (fun k => k = b ∨ v.ownBlock = some k) w w') := by
  obtain ⟨a, c, rfl⟩ := own_slice h.own
  have hb0 := h.b0
  refine call_sound T_ok fun_gleanerref12_Stack_Push rfl (by kernel_rfl) rfl (Kp ?_)
  refine AnyC_plan T_ok mixed (planO [0,1,2,3,4,5,6,7,8,9]) ((fun w' => Blk w' b t_gleanerref12_Stack [.int .i64 bound, .slice a l.length c])) (by kernel_rfl) (by kernel_rfl) ((h.tab.keep (Fr.drew _) id)) (Kp ?_)
  refine LdS_of (fun w' hw => hw) rfl (Kp ?_)
  refine LdS_of (fun w' hw => hw) rfl (Kp ?_)
  refine Br_dec (fun g => ?_) (fun g => ?_)
  · have g : (l.length : Int) ≥ bound := g
    omega
  have D : Fr No w w.drew := Fr.drew w
  have hd := h.keep D id (fun _ _ => id)
  refine LdC_blk (hd.tab) rfl ?_
  refine NewC_blk (fun pa w1 e_pa q1 f1 s1 => ?_)
  have q1 : Blk w1 pa t_api_Ref (u64i [x]) := q1
  have h1 := hd.keep f1 id (fun _ _ => id)
  have hnl : l.length ≤ 64 := by omega
  refine ApL T_ok (e := t_api_Ref) rfl rfl rfl (by decide) h1.own (Nat.zero_le _) q1 (m := 1) (news := u64i [x]) rfl rfl rfl (by omega) (show (l.length + 1) * 8 ≤ 140737488355328 by omega) (fun v2 w2 o2 f2 l2 => ?_)
  have nb : (Value.slice a l.length c).ownBlock ≠ some b := h1.ne
  have t2 := h1.tab.keep f2 nb
  obtain ⟨a2, c2, rfl⟩ := own_slice o2
  refine StC_blk t2 rfl rfl (fun w3 b3 f3 s3 => ?_)
  have b3 : Blk w3 b t_gleanerref12_Stack [.int .i64 bound, .slice a2 (l.length + 1) c2] := b3
  have o2' : w2.ownsRow 0 t_api_Ref 1 (.slice a2 (l.length + 1) c2) (l ++ [x]).length (u64i (l ++ [x])) := by
    rw [List.length_append, u64i_app]; exact o2
  refine ⟨rfl, .slice a2 (l.length + 1) c2, ⟨b3, own_keepV o2' f3 (fun k hk e => ?_), hb0, by rw [List.length_append]; show ((l.length + 1 : Nat) : Int) ≤ bound; omega⟩, ?_, ?_⟩
  · have e : k = b := e
    subst e
    obtain ⟨cur, hbk, _⟩ := own_blk o2' k hk
    have := (hbk.inj t2).2
    cases this
  · have hsz := f1.size
    have hsz0 := D.size
    rcases l2 with e | e
    · exact .inl e
    · exact .inr ⟨_, e, by omega⟩
  · exact (D.no f1).noL ((f2.weak (fun _ _ e => .inr e)).same (f3.weak (fun _ _ e => .inl e)))
theorem GraphAt.mv2 {w w' : World} {z z' : Nat → Nat} {S : Nat → Prop} {gb : Nat} {p : GP} {s : GS} (h : GraphAt w z gb p s) (m : Mv z z' S w w') (hn : ∀ i, (301 ≤ i ∧ i ≤ 304) ∨ (400 ≤ i ∧ i < 400 + p.bs.length) ∨ (1000 ≤ i ∧ i < 1000 + 2 * s.objs.length) → ¬ S i) : GraphAt w' z' gb p s := by
  have h1 := h.tab.mv h.tabz m (hn _ (by omega))
  have h2 := h.done.mv h.donez m (hn _ (by omega))
  have h3 := own_mv h.row h.rowz m (hn _ (by omega))
  obtain ⟨ov, o1, o2, o3, o4⟩ := h.objs
  have h4 := own_mv2 o2 o3 m (hn _ (by omega))
  exact ⟨h1.1, h1.2, h2.1, h2.2, h3.1, h3.2, h.lens, fun t b l hb hl => (h.stacks t b l hb hl).mv m (hn _ (by have := (List.getElem?_eq_some_iff.1 hb).1; omega)),
    ov, o1, h4.1, h4.2, fun j x o hx ho => ⟨own_mv (o4 j x o hx ho).1.1 (o4 j x o hx ho).1.2 m (hn _ (by have := (List.getElem?_eq_some_iff.1 ho).1; omega)), own_mv (o4 j x o hx ho).2.1 (o4 j x o hx ho).2.2 m (hn _ (by have := (List.getElem?_eq_some_iff.1 ho).1; omega))⟩⟩
/-- A stack changes. -/
theorem GraphAt.setStack {w w' : World} {z z' : Nat → Nat} {gb : Nat} {p : GP} {s : GS} {t b : Nat} {l' : List Int} (h : GraphAt w z gb p s) (hB : p.bs.length ≤ 64) (hb' : p.bs[t]? = some b) (m : Mv z z' (· = 400 + t) w w') (hr : RootsIn w' z' (400 + t) b s.bound l') : GraphAt w' z' gb p { s with stacks := s.stacks.set t l' } := by
  have h1 := h.tab.mv h.tabz m (by omega)
  have h2 := h.done.mv h.donez m (by omega)
  have h3 := own_mv h.row h.rowz m (by omega)
  have htl := (List.getElem?_eq_some_iff.1 hb').1
  obtain ⟨ov, o1, o2, o3, o4⟩ := h.objs
  have h4 := own_mv2 o2 o3 m (by omega)
  refine ⟨h1.1, h1.2, h2.1, h2.2, h3.1, h3.2, ⟨by rw [← h.lens.1]; exact List.length_set .., h.lens.2⟩, fun t' b2 l hb hl => ?_, ov, o1, h4.1, h4.2, fun j x o hx ho => ⟨own_mv (o4 j x o hx ho).1.1 (o4 j x o hx ho).1.2 m (by omega), own_mv (o4 j x o hx ho).2.1 (o4 j x o hx ho).2.2 m (by omega)⟩⟩
  have hl : (s.stacks.set t l')[t']? = some l := hl
  rw [List.getElem?_set] at hl
  by_cases e : t = t'
  · subst e
    rw [hb'] at hb
    injection hb with hb
    subst hb
    rw [if_pos rfl] at hl
    split at hl
    · injection hl with hl
      subst hl
      exact hr
    · cases hl
  · rw [if_neg e] at hl
    exact (h.stacks t' b2 l hb hl).mv m (by omega)
theorem objL_get {ov : List (Value × Value)} {j : Nat} {x : Value × Value} (h : ov[j]? = some x) : (objL ov)[j * 2]? = some x.1 ∧ (objL ov)[j * 2 + 1]? = some x.2 := by
  unfold objL
  induction ov generalizing j with
  | nil => cases h
  | cons y l ih =>
    cases j with
    | zero =>
      have h : some y = some x := h
      injection h with h
      subst h
      exact ⟨rfl, rfl⟩
    | succ j =>
      have h : l[j]? = some x := h
      have := ih h
      rw [show (j + 1) * 2 = j * 2 + 2 by omega]
      exact this
/-- A graph, to be read. -/
theorem GraphAt.grR {w : World} {z : Nat → Nat} {gb : Nat} {p : GP} {s : GS} (h : GraphAt w z gb p s) : GrR w gb s.stacks s.objs := by
  obtain ⟨ov, o1, o2, o3, o4⟩ := h.objs
  obtain ⟨sa, sc, es, hs⟩ : ∃ sa sc, p.vs = .slice sa s.stacks.length sc ∧ ∀ (t b : Nat), p.bs[t]? = some b → ∃ x, sa = some x ∧ w.cell? (x.add t) = some (ptr b) := by
    rw [h.lens.1]
    rcases own_cases h.row with ⟨e, h0, h1⟩ | ⟨g, cap, cur, e, _⟩
    · refine ⟨none, 0, by rw [h0]; exact e, fun t b hb => ?_⟩
      rw [List.eq_nil_of_length_eq_zero h0] at hb
      cases hb
    · refine ⟨_, cap, e, fun t b hb => ⟨_, rfl, ?_⟩⟩
      have hc := World.ownsRow.cells (e ▸ h.row) (g := g) rfl t (ptr b)
      exact hc (by rw [List.getElem?_map, hb]; rfl)
  obtain ⟨oa, oc, eo, ho⟩ : ∃ oa oc, p.vo = .slice oa s.objs.length oc ∧ ∀ (j : Nat) (x : Value × Value), ov[j]? = some x → ∃ y, oa = some y ∧ ∀ (k : Nat) (u : Value), [x.1, x.2][k]? = some u → w.cell? ((y.add (j * 2)).add k) = some u := by
    rw [← o1]
    rcases own_cases o2 with ⟨e, h0, h1⟩ | ⟨g, cap, cur, e, _⟩
    · refine ⟨none, 0, by rw [h0]; exact e, fun j x hx => ?_⟩
      rw [List.eq_nil_of_length_eq_zero h0] at hx
      cases hx
    · refine ⟨_, cap, e, fun j x hx => ⟨_, rfl, fun k u hk => ?_⟩⟩
      have hc := World.ownsRow.cells (e ▸ o2) (g := g) rfl
      have := objL_get hx
      rw [add_add', Nat.zero_add]
      match k, hk with
      | 0, hk =>
        have hk : some x.1 = some u := hk
        injection hk with hk
        have := hc (j * 2) x.1 this.1
        rw [add_of, Nat.zero_add] at this
        rw [← hk]; exact this
      | 1, hk =>
        have hk : some x.2 = some u := hk
        injection hk with hk
        have := hc (j * 2 + 1) x.2 this.2
        rw [add_of, Nat.zero_add] at this
        rw [← hk]; exact this
  have ht := h.tab
  rw [es, eo] at ht
  refine ⟨_, sa, sc, oa, oc, _, ht, fun t l hl => ?_, fun j o hj => ?_⟩
  · obtain ⟨b, hb⟩ : ∃ b, p.bs[t]? = some b := ⟨_, List.getElem?_eq_getElem (by have := (List.getElem?_eq_some_iff.1 hl).1; have := h.lens.1; omega)⟩
    obtain ⟨x, hx, hc⟩ := hs t b hb
    obtain ⟨v, hI, _⟩ := h.stacks t b l hb hl
    exact ⟨x, b, _, v, hx, hc, hI.tab, OwnU.uc (base := 0) (te := t_api_Ref) hI.own⟩
  · obtain ⟨x, hx⟩ : ∃ x, ov[j]? = some x := ⟨_, List.getElem?_eq_getElem (by have := (List.getElem?_eq_some_iff.1 hj).1; omega)⟩
    obtain ⟨y, hy, hc⟩ := ho j x hx
    have := o4 j x o hx hj
    exact ⟨y, x.1, x.2, hy, hc, OwnU.uc (base := 0) (te := t_api_Ref) this.1.1, OwnU.uc (base := 0) (te := t_uint64) this.2.1⟩
set_option maxHeartbeats 8000000 in
theorem Graph_spec {p : Pl} {v : Value} (w : World) (hp : PlanOk p) (hv : PlanV w p v) :
    CallC Pr f_gleanerref14_Graph [v] w (fun r w' => (∃ gb, r = ptr gb ∧ GrR w' gb (p.hs ++ List.replicate (p.c.c3.toNat - p.hs.length) []) (p.ts.map obP)) ∧ Fr No w w') := by
  obtain ⟨tv, hvv, rfl, hT, hH⟩ := id hv
  obtain ⟨ta, tc, rfl, tl, _⟩ := id hT
  obtain ⟨ha, hc, rfl, hl, _⟩ := id hH
  have hV := hp.v
  have htl := hp.tl
  have c3 : 1 ≤ p.c.c3 ∧ p.c.c3 ≤ 64 := hV.ls 1 (p.c.c3, 1, 64) rfl
  have c4 : 1 ≤ p.c.c4 ∧ p.c.c4 ≤ 64 := hV.ls 2 (p.c.c4, 1, 64) rfl
  refine callU_sound T_ok fun_gleanerref14_Graph rfl (by kernel_rfl) rfl (Kp ?_)
  refine NewC_blk (fun p1 w1 e_p1 b1 f1 s1 => ?_)
  have b1 : Blk w1 p1 t_gleanerref14_Plan (planL p (.slice ta p.ts.length tc) (.slice ha p.hs.length hc)) := b1
  have sz1 := f1.size
  refine LdC_blk (b1) rfl ?_
  refine LdC_blk (b1) rfl ?_
  refine CallC_intro (ref13_New_spec p.c.c3 p.c.c4 1048576 (fun _ => 0) w1 c3 c4 (by decide) (fun _ => by decide)) (fun v w2 ⟨gb, gp, z2, hv2, G2, zl2, m2⟩ => ?_)
  subst hv2
  have F2 : Fr No w1 w2 := m2.fr.weak (fun _ _ e => e)
  have zo2 : ∀ k, k < w1.heap.size → z2 k = 0 := fun k hk => m2.zs k hk
  have P1 : ∀ {w'}, Fr No w1 w' → Blk w' p1 t_gleanerref14_Plan (planL p (.slice ta p.ts.length tc) (.slice ha p.hs.length hc)) := fun f => b1.keep f id
  have gbl : gp.bs.length = p.c.c3.toNat := by
    have := G2.lens.2
    rw [← this]; exact List.length_replicate ..
  refine Cut (α := Unit) (fun _ => [(1, ptr p1), (3, ptr gb)])
    (fun _ w' => ∃ z gp', gp'.bs.length = p.c.c3.toNat ∧ GraphAt w' z gb gp' ⟨1048576, p.c.c4, List.replicate p.c.c3.toNat 0, List.replicate p.c.c3.toNat [], p.ts.map obP⟩ ∧ Fr No w1 w' ∧ (∀ k, k < w1.heap.size → z k = 0)) ?_ (fun _ w3 hJ => Kp ?_)
  · refine LoopC_intro (α := Int) (fun i => [(1, ptr p1), (3, ptr gb), (5, .int .i64 i)])
      (fun m i w' => ∃ z gp', gp'.bs.length = p.c.c3.toNat ∧ GraphAt w' z gb gp' ⟨1048576, p.c.c4, List.replicate p.c.c3.toNat 0, List.replicate p.c.c3.toNat [], (p.ts.take i.toNat).map obP⟩ ∧ Fr No w1 w' ∧ (∀ k, k < w1.heap.size → z k = 0) ∧ 0 ≤ i ∧ i ≤ p.ts.length ∧ m = (p.ts.length - i).toNat)
      (p.ts.length - 0 : Int).toNat 0 ⟨rfl, rfl, rfl, trivial⟩ ⟨z2, gp, gbl, G2, F2, zo2, Int.le_refl _, (show (0 : Int) ≤ p.ts.length by omega), rfl⟩ (fun m i w3 hJ => Kp ?_)
    obtain ⟨z3, gp3, gbl3, G3, F3, zo3, i0, i1, hm⟩ := hJ
    have i0 : 0 ≤ i := i0
    have i1 : i ≤ (p.ts.length : Int) := i1
    have hm : m = (p.ts.length - i).toNat := hm
    refine Cut_no ?_
    refine LdC_blk (P1 F3) rfl ?_
    refine Br_dec (fun g => ?_) (fun g => ?_)
    rotate_left
    · have g : ¬ i < (p.ts.length : Int) := g
      rw [List.take_of_length_le (by omega)] at G3
      exact ⟨(), ⟨rfl, rfl, trivial⟩, z3, gp3, gbl3, G3, F3, zo3⟩
    have g : i < (p.ts.length : Int) := g
    have ix : 0 ≤ i ∧ i < (p.ts.length : Int) := ⟨i0, g⟩
    obtain ⟨t, hti⟩ : ∃ t, p.ts[i.toNat]? = some t := ⟨_, List.getElem?_eq_getElem (by omega)⟩
    have ht := hp.t t (List.mem_of_getElem? hti)
    have hsz := (hp.size (List.mem_of_getElem? hti)).1
    rw [size_nat] at hsz
    obtain ⟨tok, tx, ra, rc, da, dc, ea, htv, hcell⟩ := thing_at (hT.keep f1) hti
    subst ea
    obtain ⟨hrI, hdU⟩ : Ints w1 (.slice ra t.refs.length rc) t.refs ∧ UC w1 (.slice da t.data.length dc) t.data := by
      obtain ⟨rv, dv, e, h1, h2⟩ := htv
      simp only [List.cons.injEq] at e
      rw [← e.2.1] at h1
      rw [← e.2.2.1] at h2
      exact ⟨h1, h2⟩
    have sz3 := F3.size
    refine Cut_no ?_
    refine NewC_blk (fun bd w4 e_bd q4 f4 s4 => ?_)
    have q4 : Blk w4 bd t_uint64 [] := q4
    refine LdC_blk (P1 (F3.no f4)) rfl ?_
    refine Sd_intro ix (Kp ?_)
    refine LdC_intro (v := .slice da t.data.length dc) (cell_keep (hcell 2 _ rfl) (F3.no f4)) (Kp ?_)
    refine ApU T_ok (e := t_uint64) rfl rfl rfl rfl (own_empty (base := bd) q4 (Nat.le_refl _)) (by omega) (hdU.keep (F3.no f4)) (by simp; omega) (show (0 + t.data.length) * 8 ≤ 140737488355328 by omega) (fun dv w5 ownd f5 => ?_)
    obtain ⟨ii, eii⟩ : ∃ ii : Nat, ii = i.toNat := ⟨_, rfl⟩
    rw [← eii] at hti G3
    have ixi : (ii : Int) = i := by omega
    have olen : ((p.ts.take ii).map obP).length = ii := by rw [List.length_map, List.length_take]; omega
    have f35 : Fr No w3 w5 := f4.new f5 (fun _ _ e => e) (fun k e => by have e : some bd = some k := e; injection e with e; omega)
    obtain ⟨z5, ez5⟩ : ∃ z5, z5 = zset z3 w3.heap.size (fun _ => True) (1001 + 2 * ii) := ⟨_, rfl⟩
    have m5 : Mv z3 z5 (fun _ => False) w3 w5 := ⟨f35.weak (fun _ _ e => e.elim), fun k hk => by rw [ez5]; exact zset_old hk⟩
    have G5 := G3.mv2 m5 (fun _ _ => id)
    have sz5 := f35.size
    have ownd : OwnU w5 bd t_uint64 dv t.data := ownd
    obtain ⟨dva, dvc, rfl⟩ := own_slice (show w5.ownsRow bd t_uint64 1 dv t.data.length (u64i t.data) from ownd)
    obtain ⟨dv, edv⟩ : ∃ dv, dv = Value.slice dva t.data.length dvc := ⟨_, rfl⟩
    have od5 : w5.ownsRow 0 t_uint64 1 dv t.data.length (u64i t.data) := by rw [edv]; exact own_low ownd (Nat.zero_le _)
    have zd5 : ∀ k, dv.ownBlock = some k → z5 k = 1001 + 2 * ii := fun k hk => by rw [edv] at hk; rw [ez5]; exact zset_new (by have := ownd.lt k hk; omega) trivial
    refine NewC_blk (fun p6 w6 e_p6 q6 f6 s6 => ?_)
    refine StN_blk (q6) rfl (Nat.le_of_ble_eq_true rfl) (fun w7 q7 f7 s7 => ?_)
    have q7 : Blk w7 p6 t_gleanerref13_Object [.slice none 0 0, dv] := by rw [edv]; exact q7
    have f57 : Fr No w5 w7 := f6.new f7 (fun _ _ e => e) (fun k e => by omega)
    obtain ⟨z7, ez7⟩ : ∃ z7, z7 = zset z5 w5.heap.size (fun _ => True) 350 := ⟨_, rfl⟩
    have m7 : Mv z5 z7 (fun _ => False) w5 w7 := ⟨f57.weak (fun _ _ e => e.elim), fun k hk => by rw [ez7]; exact zset_old hk⟩
    have G7 := G5.mv2 m7 (fun _ _ => id)
    have zp6 : z7 p6 = 350 := by rw [ez7]; exact zset_new (by omega) trivial
    have od7 := own_mv od5 zd5 m7 id
    have F7 : Fr No w1 w7 := (F3.no f35).no f57
    have zo7 : ∀ k, k < w1.heap.size → z7 k = 0 := fun k hk => by rw [m7.zs k (by omega), m5.zs k (by omega)]; exact zo3 k hk
    refine Cut_no ?_
    refine LoopC_intro (α := Int) (fun k => [(1, ptr p1), (3, ptr gb), (5, .int .i64 i), (6, ptr p6), (7, .int .i64 k)])
      (fun m k w' => ∃ z rv, (w'.ownsRow 0 t_api_Ref 1 rv (t.refs.take k.toNat).length (u64i (t.refs.take k.toNat)) ∧ ∀ b, rv.ownBlock = some b → z b = 1000 + 2 * ii) ∧ (Blk w' p6 t_gleanerref13_Object [rv, dv] ∧ z p6 = 350) ∧ (w'.ownsRow 0 t_uint64 1 dv t.data.length (u64i t.data) ∧ ∀ b, dv.ownBlock = some b → z b = 1001 + 2 * ii) ∧
        GraphAt w' z gb gp3 ⟨1048576, p.c.c4, List.replicate p.c.c3.toNat 0, List.replicate p.c.c3.toNat [], (p.ts.take ii).map obP⟩ ∧ Fr No w1 w' ∧ (∀ k, k < w1.heap.size → z k = 0) ∧ 0 ≤ k ∧ k ≤ t.refs.length ∧ m = (t.refs.length - k).toNat)
      (t.refs.length - 0 : Int).toNat 0 ⟨rfl, rfl, rfl, rfl, rfl, trivial⟩ ⟨z7, .slice none 0 0, ⟨World.ownsRow_nil _ _ _ _, fun b h => (by cases h)⟩, ⟨q7, zp6⟩, od7, G7, F7, zo7, Int.le_refl _, (show (0 : Int) ≤ t.refs.length by omega), rfl⟩ (fun m' k w8 hJ => Kp ?_)
    obtain ⟨z8, rv, ⟨or8, zr8⟩, ⟨q8, zp8⟩, ⟨od8, zd8⟩, G8, F8, zo8, k0, k1, hm'⟩ := hJ
    have k0 : 0 ≤ k := k0
    have k1 : k ≤ (t.refs.length : Int) := k1
    have hm' : m' = (t.refs.length - k).toNat := hm'
    have sz8 := F8.size
    refine Cut_no ?_
    refine LdC_blk (P1 F8) rfl ?_
    refine Sd_intro ix (Kp ?_)
    refine LdC_intro (v := .slice ra t.refs.length rc) (cell_keep (hcell 1 _ rfl) F8) (Kp ?_)
    obtain ⟨rva, rvc, rfl⟩ := own_slice or8
    refine Br_dec (fun g5 => ?_) (fun g5 => ?_)
    · have g5 : k < (t.refs.length : Int) := g5
      obtain ⟨r, hr⟩ : ∃ r, t.refs[k.toNat]? = some r := ⟨_, List.getElem?_eq_getElem (by omega)⟩
      have hrb := ht.2.2.2.2.2 r (List.mem_of_getElem? hr)
      obtain ⟨a', c', e', hrc⟩ := id hrI
      obtain ⟨rx, rfl, hrx⟩ : ∃ rx, ra = some rx ∧ ∀ (i : Nat) (z : Int), t.refs[i]? = some z → w1.cell? (rx.add i) = some (.int .i64 z) := by
        injection e' with e1
        rcases hrc with e | hrc
        · rw [e] at hr; cases hr
        · rw [e1]; exact hrc
      have tkl : (t.refs.take k.toNat).length = k.toNat := by rw [List.length_take]; omega
      have S8 : ∀ {w' : World}, Fr No w1 w' → Blk w' p6 t_gleanerref13_Object [.slice rva (t.refs.take k.toNat).length rvc, dv] → Blk w' p6 t_gleanerref13_Object [.slice rva (t.refs.take k.toNat).length rvc, dv] ∧ Blk w' p1 t_gleanerref14_Plan (planL p (.slice (some tx) p.ts.length tc) (.slice ha p.hs.length hc)) ∧ w'.cell? ((tx.add (i.toNat * 3)).add 1) = some (.slice (some rx) t.refs.length rc) ∧ w'.cell? (rx.add k.toNat) = some (.int .i64 r) :=
        fun f h => ⟨h, P1 f, cell_keep (hcell 1 _ rfl) f, cell_keep (hrx _ _ hr) f⟩
      have D8 : Fr No w8 w8.drew := Fr.drew w8
      refine Cut_no ?_
      refine AnyC_plan T_ok mixed (Go.Vc.planL [0,1,2,3,4,5,6,7,8,9,10,11,1012,1013,14,1015]) (fun w' => Blk w' p6 t_gleanerref13_Object [.slice rva (t.refs.take k.toNat).length rvc, dv] ∧ Blk w' p1 t_gleanerref14_Plan (planL p (.slice (some tx) p.ts.length tc) (.slice ha p.hs.length hc)) ∧ w'.cell? ((tx.add (i.toNat * 3)).add 1) = some (.slice (some rx) t.refs.length rc) ∧ w'.cell? (rx.add k.toNat) = some (.int .i64 r)) (by kernel_rfl) (by kernel_rfl) (S8 (F8.no D8) (q8.keep D8 id)) (Kp ?_)
      refine LdS_of (fun w' hw => hw.1) rfl (Kp ?_)
      refine LdS_of (fun w' hw => hw.2.1) rfl (Kp ?_)
      refine Sd_intro ix (Kp ?_)
      refine LdS_intro (v := .slice (some rx) t.refs.length rc) (fun w' hw => hw.2.2.1) (Kp ?_)
      refine Sd_intro (show 0 ≤ k ∧ k < (t.refs.length : Int) from ⟨k0, g5⟩) (Kp ?_)
      refine LdS_intro (v := .int .i64 r) (fun w' hw => by rw [Nat.mul_one]; exact hw.2.2.2) (Kp ?_)
      refine ⟨Kp ?_, trivial⟩
      refine NewC_blk (fun pa w9 e_pa q9 f9 s9 => ?_)
      have eu : IntKind.u64.wrap r = r := wrap_u64 (by omega) (by omega)
      have q9 : Blk w9 pa t_api_Ref (u64i [r]) := by rw [← eu]; exact q9
      have f89 := D8.no f9
      have F9 := F8.no f89
      refine Sd_intro (S8 F9 (q8.keep f89 id)) (Kp ?_)
      refine ⟨Kp ?_, trivial⟩
      have sz9 := f89.size
      refine ApL T_ok (e := t_api_Ref) rfl rfl rfl (by decide) (own_keepV or8 f89 (fun _ _ => id)) (Nat.zero_le _) q9 (m := 1) (news := u64i [r]) rfl rfl rfl (by omega) (show ((t.refs.take k.toNat).length + 1) * 8 ≤ 140737488355328 by omega) (fun v10 w10 o10 f10 l10 => ?_)
      obtain ⟨va, vc, ev10⟩ := own_slice o10
      subst ev10
      have n6 : ∀ {w' : World}, w'.ownsRow 0 t_api_Ref 1 (.slice rva (t.refs.take k.toNat).length rvc) (t.refs.take k.toNat).length (u64i (t.refs.take k.toNat)) → Blk w' p6 t_gleanerref13_Object [.slice rva (t.refs.take k.toNat).length rvc, dv] → (Value.slice rva (t.refs.take k.toNat).length rvc).ownBlock ≠ some p6 := fun ho hb e => by
        obtain ⟨cur, hb2, _⟩ := own_blk ho p6 e
        have := (hb2.inj hb).2
        cases this
      have q10 := (q8.keep f89 id).keep f10 (n6 or8 q8)
      have F10 : Fr No w1 w10 := F9.trans f10 (fun _ _ e => e) (fun b hb e => by have h1 := zr8 b e; rw [zo8 b hb] at h1; omega)
      refine Sd_intro (S8 F10 q10) (Kp ?_)
      refine ⟨Kp ?_, trivial⟩
      refine StC_blk q10 rfl rfl (fun w11 q11 f11 s11 => ?_)
      have q11 : Blk w11 p6 t_gleanerref13_Object [.slice va ((t.refs.take k.toNat).length + 1) vc, dv] := q11
      obtain ⟨z11, ez11⟩ : ∃ z11, z11 = zset z8 w8.heap.size (fun _ => True) (1000 + 2 * ii) := ⟨_, rfl⟩
      have sz10 := f10.size
      have m11 : Mv z8 z11 (fun j => j = 1000 + 2 * ii ∨ j = 350) w8 w11 := by
        refine ⟨?_, fun b hb => by rw [ez11]; exact zset_old hb⟩
        exact (f89.noL (f10.weak (fun b _ e => .inl (zr8 b e)))).same (f11.weak (fun b _ e => .inr (by rw [e]; exact zp8)))
      have G11 := G8.mv2 m11 (fun j hj e => by
        have : ((⟨1048576, p.c.c4, List.replicate p.c.c3.toNat 0, List.replicate p.c.c3.toNat [], (p.ts.take ii).map obP⟩ : GS)).objs.length = ii := olen
        rw [this] at hj
        omega)
      have o11 : w11.ownsRow 0 t_api_Ref 1 (.slice va ((t.refs.take k.toNat).length + 1) vc) (t.refs.take (k + 1).toNat).length (u64i (t.refs.take (k + 1).toNat)) := by
        have e1 : t.refs.take (k + 1).toNat = t.refs.take k.toNat ++ [r] := by rw [show (k + 1).toNat = k.toNat + 1 by omega, List.take_add_one, hr]; rfl
        rw [e1, List.length_append, u64i_app]
        refine own_keepV o10 f11 (fun b hb e => ?_)
        have e : b = p6 := e
        obtain ⟨cur, hb2, _⟩ := own_blk o10 b hb
        rw [e] at hb2
        have := (hb2.inj q10).2
        cases this
      refine ⟨(t.refs.length - (k + 1)).toNat, _, by omega, ?_, k + 1, rfl, z11, _, ⟨o11, fun b hb => ?_⟩, ⟨q11, by rw [m11.zs p6 q8.lt]; exact zp8⟩, own_mv od8 zd8 m11 (by omega), G11, F10.trans f11 (fun _ _ e => e) (fun b hb e => by have e : b = p6 := e; have := zo8 b hb; rw [e, zp8] at this; cases this), fun b hb => by rw [m11.zs b (by omega)]; exact zo8 b hb, (show 0 ≤ k + 1 by omega), (show k + 1 ≤ (t.refs.length : Int) by omega), rfl⟩
      · exact ⟨rfl, rfl, rfl, rfl, look_int rfl (wrap_i64 (by omega) (by omega)), trivial⟩
      · rcases l10 with e | e
        · have hb' := zr8 b (by rw [← e]; exact hb)
          have hlt := (World.ownsRow.lt or8 b (by rw [← e]; exact hb)).2
          rw [m11.zs b hlt]; exact hb'
        · rw [hb] at e
          injection e with e
          rw [ez11]
          exact zset_new (by omega) trivial
    · have g5 : ¬ k < (t.refs.length : Int) := g5
      rw [show t.refs.take k.toNat = t.refs from List.take_of_length_le (by omega)] at or8 q8 zr8
      obtain ⟨ov, o1, o2, o3, o4⟩ := G8.objs
      have o1 : ov.length = ii := by rw [o1]; exact olen
      have t8 := G8.tab
      obtain ⟨rvV, erv⟩ : ∃ rvV, rvV = Value.slice rva t.refs.length rvc := ⟨_, rfl⟩
      obtain ⟨gt, egt⟩ : ∃ gt, gt = [Value.int .i64 1048576, gp3.vo, gp3.vs, .slice (some ⟨gp3.dr, 0, none⟩) (List.replicate p.c.c3.toNat (0 : Int)).length (List.replicate p.c.c3.toNat (0 : Int)).length] := ⟨_, rfl⟩
      have n86 : gb ≠ p6 := fun e => by
        have h1 := G8.tabz
        rw [e, zp8] at h1; cases h1
      have D8 : Fr No w8 w8.drew := Fr.drew w8
      have S8 : ∀ {w' : World}, Fr No w8 w' → Blk w' gb t_gleanerref13_Graph [Value.int .i64 1048576, gp3.vo, gp3.vs, .slice (some ⟨gp3.dr, 0, none⟩) (List.replicate p.c.c3.toNat (0 : Int)).length (List.replicate p.c.c3.toNat (0 : Int)).length] ∧ Blk w' p6 t_gleanerref13_Object [.slice rva t.refs.length rvc, dv] := fun f => ⟨t8.keep f id, q8.keep f id⟩
      refine AnyC_plan T_ok mixed (Go.Vc.planL [0,1,2,3,4,5,1006,1007,8,9,1010]) (fun w' => Blk w' gb t_gleanerref13_Graph [Value.int .i64 1048576, gp3.vo, gp3.vs, .slice (some ⟨gp3.dr, 0, none⟩) (List.replicate p.c.c3.toNat (0 : Int)).length (List.replicate p.c.c3.toNat (0 : Int)).length] ∧ Blk w' p6 t_gleanerref13_Object [.slice rva t.refs.length rvc, dv]) (by kernel_rfl) (by kernel_rfl) (S8 D8) (Kp ?_)
      refine LdS_of (fun w' hw => hw.1) rfl (Kp ?_)
      refine LdSN_of (vs := [.slice rva t.refs.length rvc, dv]) (fun w' hw => hw.2) rfl rfl (Kp ?_)
      refine ⟨Kp ?_, trivial⟩
      subst edv
      refine NewC_blk (fun pa w9 e_pa q9 f9 s9 => ?_)
      have f89 := D8.no f9
      refine Sd_intro (S8 f89) (Kp ?_)
      refine ⟨Kp ?_, trivial⟩
      have sz9 := f89.size
      have q9 : Blk w9 pa t_gleanerref13_Object [.slice rva t.refs.length rvc, .slice dva t.data.length dvc] := q9
      refine ApL T_ok (e := t_gleanerref13_Object) rfl rfl rfl (by decide) (own_keepV o2 f89 (fun _ _ => id)) (Nat.zero_le _) q9 (m := 1) (news := [.slice rva t.refs.length rvc, .slice dva t.data.length dvc]) rfl rfl rfl (by omega) (show (ov.length + 1) * 48 ≤ 140737488355328 by omega) (fun v10 w10 o10 f10 l10 => ?_)
      obtain ⟨va, vc, ev10⟩ := own_slice o10
      subst ev10
      have ngb : gp3.vo.ownBlock ≠ some gb := fun e => by
        have h1 := o3 gb e
        rw [G8.tabz] at h1; cases h1
      have np6 : gp3.vo.ownBlock ≠ some p6 := fun e => by
        have h1 := o3 p6 e
        rw [zp8] at h1; cases h1
      have F9 := F8.no f89
      have F10 : Fr No w1 w10 := F9.trans f10 (fun _ _ e => e) (fun b hb e => by have h1 := o3 b e; rw [zo8 b hb] at h1; cases h1)
      have t10 := (t8.keep f89 id).keep f10 ngb
      have q10 := (q8.keep f89 id).keep f10 np6
      refine Sd_intro ⟨t10, q10⟩ (Kp ?_)
      refine ⟨Kp ?_, trivial⟩
      refine StC_blk t10 rfl rfl (fun w11 q11 f11 s11 => ?_)
      have q11 : Blk w11 gb t_gleanerref13_Graph [Value.int .i64 1048576, .slice va (ov.length + 1) vc, gp3.vs, .slice (some ⟨gp3.dr, 0, none⟩) (List.replicate p.c.c3.toNat (0 : Int)).length (List.replicate p.c.c3.toNat (0 : Int)).length] := q11
      obtain ⟨z11, ez11⟩ : ∃ z11, z11 = zset z8 w8.heap.size (fun _ => True) 304 := ⟨_, rfl⟩
      have sz10 := f10.size
      have m11 : Mv z8 z11 (fun j => j = 304 ∨ j = 301) w8 w11 := by
        refine ⟨?_, fun b hb => by rw [ez11]; exact zset_old hb⟩
        exact (f89.noL (f10.weak (fun b _ e => .inl (o3 b e)))).same (f11.weak (fun b _ e => .inr (by rw [e]; exact G8.tabz)))
      have F11 : Fr No w1 w11 := F10.trans f11 (fun _ _ e => e) (fun b hb e => by have e : b = gb := e; have h1 := zo8 b hb; rw [e, G8.tabz] at h1; cases h1)
      have h2 := G8.done.mv G8.donez m11 (by decide)
      have h3 := own_mv G8.row G8.rowz m11 (by decide)
      have olt : ∀ b, (Value.slice va (ov.length + 1) vc).ownBlock = some b → z11 b = 304 := fun b hb => by
        rcases l10 with e | e
        · have hb' := o3 b (by rw [← e]; exact hb)
          have hlt := (World.ownsRow.lt o2 b (by rw [← e]; exact hb)).2
          rw [m11.zs b hlt]; exact hb'
        · rw [hb] at e
          injection e with e
          rw [ez11]
          exact zset_new (by omega) trivial
      have nob : ∀ b, (Value.slice va (ov.length + 1) vc).ownBlock = some b → b ≠ gb := fun b hb e => by
        obtain ⟨cur, hb2, _⟩ := own_blk o10 b hb
        rw [e] at hb2
        have := (hb2.inj t10).2
        cases this
      have etk : (p.ts.take (i + 1).toNat).map obP = (p.ts.take ii).map obP ++ [(t.refs, t.data)] := by
        rw [show (i + 1).toNat = ii + 1 by omega, List.take_add_one, hti, List.map_append]; rfl
      have G11 : GraphAt w11 z11 gb { gp3 with vo := .slice va (ov.length + 1) vc } ⟨1048576, p.c.c4, List.replicate p.c.c3.toNat 0, List.replicate p.c.c3.toNat [], (p.ts.take (i + 1).toNat).map obP⟩ := by
        refine ⟨q11, by rw [m11.zs gb t8.lt]; exact G8.tabz, h2.1, h2.2, h3.1, h3.2, G8.lens, fun t' b l hb hl => (G8.stacks t' b l hb hl).mv m11 (by omega), ov ++ [(.slice rva t.refs.length rvc, .slice dva t.data.length dvc)], ?_, ?_, ?_, fun j x o hx ho => ?_⟩
        · rw [List.length_append, etk, List.length_append, olen, o1]; rfl
        · have eo : objL (ov ++ [(.slice rva t.refs.length rvc, .slice dva t.data.length dvc)]) = objL ov ++ [.slice rva t.refs.length rvc, .slice dva t.data.length dvc] := by simp [objL]
          rw [List.length_append, eo]
          exact own_keepV o10 f11 (fun b hb => nob b hb)
        · exact olt
        · rw [etk] at ho
          by_cases q : j < ov.length
          · rw [List.getElem?_append_left q] at hx
            rw [List.getElem?_append_left (by rw [olen]; omega)] at ho
            obtain ⟨⟨a1, a2⟩, a3, a4⟩ := o4 j x o hx ho
            exact ⟨own_mv a1 a2 m11 (by omega), own_mv a3 a4 m11 (by omega)⟩
          · have hjl := (List.getElem?_eq_some_iff.1 hx).1
            rw [List.length_append] at hjl
            have hjl : j < ov.length + 1 := hjl
            obtain rfl : j = ov.length := by omega
            rw [List.getElem?_append_right (Nat.le_refl _), Nat.sub_self] at hx
            rw [List.getElem?_append_right (by rw [olen]; omega), olen, o1, Nat.sub_self] at ho
            injection hx with hx
            injection ho with ho
            subst hx
            subst ho
            rw [o1]
            refine ⟨own_mv or8 zr8 m11 (by omega), own_mv od8 zd8 m11 (by omega)⟩
      refine ⟨(p.ts.length - (i + 1)).toNat, _, by omega, ?_, i + 1, rfl, z11, { gp3 with vo := .slice va (ov.length + 1) vc }, gbl3, G11, F11, fun b hb => by rw [m11.zs b (by omega)]; exact zo8 b hb, (show 0 ≤ i + 1 by omega), (show i + 1 ≤ (p.ts.length : Int) by omega), rfl⟩
      exact ⟨rfl, rfl, look_int rfl (wrap_i64 (by omega) (by omega)), trivial⟩
  obtain ⟨z3, gp3, gbl3, G3, F3, zo3⟩ := hJ
  have hhl := hp.hl
  obtain ⟨sk, esk⟩ : ∃ sk : Nat → List (List Int), sk = fun i => p.hs.take i ++ List.replicate (p.c.c3.toNat - i) [] := ⟨_, rfl⟩
  have skl : ∀ i, i ≤ p.hs.length → (sk i).length = p.c.c3.toNat := fun i hi => by
    rw [esk]
    dsimp only
    rw [List.length_append, List.length_take, List.length_replicate]; omega
  have sk0 : List.replicate p.c.c3.toNat ([] : List Int) = sk 0 := by rw [esk]; simp
  have skg : ∀ i, i < p.hs.length → (sk i)[i]? = some [] := fun i hi => by
    rw [esk]
    dsimp only
    rw [List.getElem?_append_right (by rw [List.length_take]; omega), List.length_take, List.getElem?_replicate, if_pos (by omega)]
  have sks : ∀ i l, p.hs[i]? = some l → (sk i).set i l = sk (i + 1) := fun i l h => by
    have hi := (List.getElem?_eq_some_iff.1 h).1
    rw [esk]
    dsimp only
    apply List.ext_getElem?
    intro j
    by_cases e : i = j
    · subst e
      rw [List.getElem?_set_self (by rw [List.length_append, List.length_take, List.length_replicate]; omega), List.getElem?_append_left (by rw [List.length_take]; omega), List.getElem?_take, if_pos (by omega), h]
    · rw [List.getElem?_set_ne e]
      by_cases q : j < i
      · rw [List.getElem?_append_left (by rw [List.length_take]; omega), List.getElem?_append_left (by rw [List.length_take]; omega), List.getElem?_take, List.getElem?_take, if_pos q, if_pos (by omega)]
      · rw [List.getElem?_append_right (by rw [List.length_take]; omega), List.getElem?_append_right (by rw [List.length_take]; omega), List.length_take, List.length_take, List.getElem?_replicate, List.getElem?_replicate]
        by_cases q2 : j < p.c.c3.toNat
        · rw [if_pos (by omega), if_pos (by omega)]
        · rw [if_neg (by omega), if_neg (by omega)]
  rw [sk0] at G3
  refine Cut_no ?_
  refine LoopC_intro (α := Int) (fun i => [(1, ptr p1), (3, ptr gb), (8, .int .i64 i)])
    (fun m i w' => ∃ z, GraphAt w' z gb gp3 ⟨1048576, p.c.c4, List.replicate p.c.c3.toNat 0, sk i.toNat, p.ts.map obP⟩ ∧ Fr No w1 w' ∧ (∀ k, k < w1.heap.size → z k = 0) ∧ 0 ≤ i ∧ i ≤ p.hs.length ∧ m = (p.hs.length - i).toNat)
    (p.hs.length - 0 : Int).toNat 0 ⟨rfl, rfl, rfl, trivial⟩ ⟨z3, G3, F3, zo3, Int.le_refl _, (show (0 : Int) ≤ p.hs.length by omega), rfl⟩ (fun m i w4 hJ => Kp ?_)
  obtain ⟨z4, G4, F4, zo4, i0, i1, hm⟩ := hJ
  have i0 : 0 ≤ i := i0
  have i1 : i ≤ (p.hs.length : Int) := i1
  have hm : m = (p.hs.length - i).toNat := hm
  refine Cut_no ?_
  refine LdC_blk (P1 F4) rfl ?_
  refine Br_dec (fun g => ?_) (fun g => ?_)
  rotate_left
  · have g : ¬ i < (p.hs.length : Int) := g
    refine ⟨⟨gb, rfl, ?_⟩, f1.no F4⟩
    have := G4.grR
    rw [show i.toNat = p.hs.length by omega, esk] at this
    dsimp only at this
    rw [List.take_of_length_le (Nat.le_refl _)] at this
    exact this
  have g : i < (p.hs.length : Int) := g
  have ix : 0 ≤ i ∧ i < (p.hs.length : Int) := ⟨i0, g⟩
  obtain ⟨l, hli⟩ : ∃ l, p.hs[i.toNat]? = some l := ⟨_, List.getElem?_eq_getElem (by omega)⟩
  have hlb := hp.h l (List.mem_of_getElem? hli)
  obtain ⟨ha2, hc2, ehv, _, hhv⟩ := hH.keep f1
  obtain rfl : ha = ha2 := by injection ehv
  obtain ⟨hlr, _, hx, u, eha, hlv, hcell⟩ := hhv i.toNat l hli
  subst eha
  obtain ⟨la, lc, rfl, hlc⟩ := id hlv
  refine Cut_no ?_
  refine LoopC_intro (α := Int) (fun k => [(1, ptr p1), (3, ptr gb), (8, .int .i64 i), (9, .int .i64 k)])
    (fun m k w' => ∃ z, GraphAt w' z gb gp3 ⟨1048576, p.c.c4, List.replicate p.c.c3.toNat 0, (sk i.toNat).set i.toNat (l.take k.toNat), p.ts.map obP⟩ ∧ Fr No w1 w' ∧ (∀ k, k < w1.heap.size → z k = 0) ∧ 0 ≤ k ∧ k ≤ l.length ∧ m = (l.length - k).toNat)
    (l.length - 0 : Int).toNat 0 ⟨rfl, rfl, rfl, rfl, trivial⟩ ⟨z4, ?_, F4, zo4, Int.le_refl _, (show (0 : Int) ≤ l.length by omega), rfl⟩ (fun m' k w5 hJ => Kp ?_)
  · obtain ⟨hh, e⟩ := List.getElem?_eq_some_iff.1 (skg i.toNat (by omega))
    have : (sk i.toNat).set i.toNat (l.take 0) = sk i.toNat := by
      show (sk i.toNat).set i.toNat [] = sk i.toNat
      rw [← e]
      exact List.set_getElem_self hh
    show GraphAt w4 z4 gb gp3 ⟨1048576, p.c.c4, List.replicate p.c.c3.toNat 0, (sk i.toNat).set i.toNat (l.take 0), p.ts.map obP⟩
    rw [this]; exact G4
  obtain ⟨z5, G5, F5, zo5, k0, k1, hm'⟩ := hJ
  have k0 : 0 ≤ k := k0
  have k1 : k ≤ (l.length : Int) := k1
  have hm' : m' = (l.length - k).toNat := hm'
  refine Cut_no ?_
  refine LdC_blk (P1 F5) rfl ?_
  refine Sd_intro ix (Kp ?_)
  refine LdC_intro (v := .slice la l.length lc) (by rw [Nat.mul_one]; exact cell_keep hcell F5) (Kp ?_)
  refine Br_dec (fun g5 => ?_) (fun g5 => ?_)
  rotate_left
  · have g5 : ¬ k < (l.length : Int) := g5
    rw [List.take_of_length_le (by omega), sks i.toNat l hli] at G5
    refine ⟨(p.hs.length - (i + 1)).toNat, _, by omega, ?_, i + 1, rfl, z5, (by rw [show (i + 1).toNat = i.toNat + 1 by omega]; exact G5), F5, zo5, (show 0 ≤ i + 1 by omega), (show i + 1 ≤ (p.hs.length : Int) by omega), rfl⟩
    exact ⟨rfl, rfl, look_int rfl (wrap_i64 (by omega) (by omega)), trivial⟩
  have g5 : k < (l.length : Int) := g5
  obtain ⟨r, hr⟩ : ∃ r, l[k.toNat]? = some r := ⟨_, List.getElem?_eq_getElem (by omega)⟩
  have hrb := hlb.2 r (List.mem_of_getElem? hr)
  obtain ⟨lx, rfl, hlx⟩ : ∃ lx, la = some lx ∧ ∀ (i : Nat) (z : Int), l[i]? = some z → w1.cell? (lx.add i) = some (.int .i64 z) := by
    rcases hlc with e | hlc
    · rw [e] at hr; cases hr
    · exact hlc
  have hcr := hlx _ _ hr
  obtain ⟨b, hb⟩ : ∃ b, gp3.bs[i.toNat]? = some b := ⟨_, List.getElem?_eq_getElem (by omega)⟩
  obtain ⟨gg, cap, cur, evs, hgB, hgc⟩ : ∃ gg cap cur, gp3.vs = .slice (some ⟨gg, 0, none⟩) gp3.bs.length cap ∧ Blk w5 gg t_p_gleanerref12_Stack cur ∧ cur[0 + i.toNat * 1]? = some (ptr b) := by
    rcases own_cases G5.row with ⟨_, h0, _⟩ | ⟨gg, cap, cur, e, _, hB, ht, _⟩
    · omega
    · refine ⟨gg, cap, cur, e, hB, ?_⟩
      have h1 : (gp3.bs.map ptr)[i.toNat]? = some (ptr b) := by rw [List.getElem?_map, hb]; rfl
      rw [← ht, List.getElem?_take] at h1
      split at h1
      · rw [Nat.mul_one, Nat.zero_add]; exact h1
      · cases h1
  have t5 := G5.tab
  rw [evs] at t5
  have zgg : z5 gg = 303 := G5.rowz gg (by rw [evs]; rfl)
  have hgl : ((sk i.toNat).set i.toNat (l.take k.toNat))[i.toNat]? = some (l.take k.toNat) := List.getElem?_set_self (by rw [skl _ (by omega)]; omega)
  obtain ⟨sv, hSt, zb, zv⟩ := G5.stacks i.toNat b (l.take k.toNat) hb hgl
  have D5 : Fr No w5 w5.drew := Fr.drew w5
  have S5 : ∀ {w' : World}, Fr No w1 w' → Blk w' gb t_gleanerref13_Graph [.int .i64 1048576, gp3.vo, .slice (some ⟨gg, 0, none⟩) gp3.bs.length cap, .slice (some ⟨gp3.dr, 0, none⟩) (List.replicate p.c.c3.toNat (0 : Int)).length (List.replicate p.c.c3.toNat (0 : Int)).length] → Blk w' gg t_p_gleanerref12_Stack cur → Blk w' gb t_gleanerref13_Graph [.int .i64 1048576, gp3.vo, .slice (some ⟨gg, 0, none⟩) gp3.bs.length cap, .slice (some ⟨gp3.dr, 0, none⟩) (List.replicate p.c.c3.toNat (0 : Int)).length (List.replicate p.c.c3.toNat (0 : Int)).length] ∧ Blk w' gg t_p_gleanerref12_Stack cur ∧ Blk w' p1 t_gleanerref14_Plan (planL p (.slice ta p.ts.length tc) (.slice (some hx) p.hs.length hc)) ∧ w'.cell? (hx.add i.toNat) = some (.slice (some lx) l.length lc) ∧ w'.cell? (lx.add k.toNat) = some (.int .i64 r) :=
    fun f h1 h2 => ⟨h1, h2, P1 f, cell_keep hcell f, cell_keep hcr f⟩
  refine Cut_no ?_
  refine AnyC_plan T_ok mixed (planO [0,1,2,3,4,5,6,7,8,9,10,11,12,13,14,15,1016]) ((fun w' => Blk w' gb t_gleanerref13_Graph [.int .i64 1048576, gp3.vo, .slice (some ⟨gg, 0, none⟩) gp3.bs.length cap, .slice (some ⟨gp3.dr, 0, none⟩) (List.replicate p.c.c3.toNat (0 : Int)).length (List.replicate p.c.c3.toNat (0 : Int)).length] ∧ Blk w' gg t_p_gleanerref12_Stack cur ∧ Blk w' p1 t_gleanerref14_Plan (planL p (.slice ta p.ts.length tc) (.slice (some hx) p.hs.length hc)) ∧ w'.cell? (hx.add i.toNat) = some (.slice (some lx) l.length lc) ∧ w'.cell? (lx.add k.toNat) = some (.int .i64 r))) (by kernel_rfl) (by kernel_rfl) ((S5 (F5.no D5) (t5.keep D5 id) (hgB.keep D5 id))) (Kp ?_)
  refine LdS_of (fun w' hw => hw.1) rfl (Kp ?_)
  refine Sd_intro (show 0 ≤ i ∧ i < (gp3.bs.length : Int) by omega) (Kp ?_)
  refine LdS_ofi (fun w' hw => hw.2.1) hgc (Kp ?_)
  refine LdS_of (fun w' hw => hw.2.2.1) rfl (Kp ?_)
  refine Sd_intro ix (Kp ?_)
  refine LdS_intro (v := .slice (some lx) l.length lc) (fun w' hw => by rw [Nat.mul_one]; exact hw.2.2.2.1) (Kp ?_)
  refine Sd_intro (show 0 ≤ k ∧ k < (l.length : Int) from ⟨k0, g5⟩) (Kp ?_)
  refine LdS_intro (v := .int .i64 r) (fun w' hw => by rw [Nat.mul_one]; exact hw.2.2.2.2) (Kp ?_)
  refine ⟨Kp ?_, trivial⟩
  have eu : IntKind.u64.wrap r = r := wrap_u64 (by omega) (by omega)
  have tkl : (l.take k.toNat).length = k.toNat := by rw [List.length_take]; omega
  refine CallC_intro (ref12_Push_spec (IntKind.u64.wrap r) _ (hSt.keep D5 id (fun _ _ => id)) (by show ((l.take k.toNat).length : Int) < p.c.c4; omega)) (fun v w6 ⟨hv6, v', hSt6, hob, f6⟩ => ?_)
  rw [eu] at hSt6
  subst hv6
  have f56 : Fr (fun j => j = b ∨ sv.ownBlock = some j) w5 w6 := D5.noL f6
  obtain ⟨z6, ez6⟩ : ∃ z6, z6 = zset z5 w5.heap.size (fun _ => True) (400 + i.toNat) := ⟨_, rfl⟩
  have m6 : Mv z5 z6 (· = 400 + i.toNat) w5 w6 := ⟨f56.weak (fun j _ e => by rcases e with e | e; rw [e]; exact zb; exact zv j e), fun j hj => by rw [ez6]; exact zset_old hj⟩
  have R6 : RootsIn w6 z6 (400 + i.toNat) b p.c.c4 (l.take k.toNat ++ [r]) := by
    refine ⟨v', hSt6, by rw [m6.zs b hSt.tab.lt]; exact zb, fun j hj => ?_⟩
    rcases hob with e | ⟨j', hj', hle⟩
    · rw [e] at hj
      have hlt := (World.ownsRow.lt hSt.own j hj).2
      rw [m6.zs j hlt]; exact zv j hj
    · rw [hj'] at hj
      injection hj with hj
      rw [ez6]
      have := D5.size
      exact zset_new (by omega) trivial
  have G6 := G5.setStack (by omega) hb m6 R6
  have F6 : Fr No w1 w6 := F5.trans m6.fr (fun _ _ e => e) (fun j hj e => by have := zo5 j hj; omega)
  refine Sd_intro (S5 F6 (t5.keep m6.fr (by rw [G5.tabz]; omega)) (hgB.keep m6.fr (by rw [zgg]; omega))) (Kp ?_)
  have ek : (k + 1).toNat = k.toNat + 1 := by omega
  refine ⟨(l.length - (k + 1)).toNat, _, by omega, ?_, k + 1, rfl, z6, ?_, F6, fun j hj => by rw [m6.zs j (by have := F5.size; omega)]; exact zo5 j hj, (show 0 ≤ k + 1 by omega), (show k + 1 ≤ (l.length : Int) by omega), rfl⟩
  · exact ⟨rfl, rfl, rfl, look_int rfl (wrap_i64 (by omega) (by omega)), trivial⟩
  · show GraphAt w6 z6 gb gp3 ⟨1048576, p.c.c4, List.replicate p.c.c3.toNat 0, (sk i.toNat).set i.toNat (l.take (k + 1).toNat), p.ts.map obP⟩
    have : (sk i.toNat).set i.toNat (l.take (k + 1).toNat) = ((sk i.toNat).set i.toNat (l.take k.toNat)).set i.toNat (l.take k.toNat ++ [r]) := by
      rw [List.set_set, ek, List.take_add_one, hr]; rfl
    rw [this]; exact G6
end Go.Proofs.YtdhbpklmkibmbaaGreat
