/- What the library's sorts do to a row of one's own. -/
import Derived.Test.YtdhbpklmkibmbaaGreatVcI
import Derived.Shelf.GgSortFunc.RowK
import Derived.Test.YtdhbpklmkibmbaaGreatVcL
namespace Go.Vc
open Go.Sort

theorem putCells_list {α : Type} [Inhabited α] (enc : α → Value) (d : Array α) (c : Array Value) (h : d.size ≤ c.size) :
    (putCells enc 0 d c).toList = d.toList.map enc ++ c.toList.drop d.size := by
  apply List.ext_getElem?
  intro k
  simp only [putCells, Array.getElem?_toList, Array.getElem?_mapIdx]
  rw [List.getElem?_append]
  by_cases hk : k < d.size
  · rw [if_pos (by simpa using hk), List.getElem?_map, Array.getElem?_toList, Array.getElem?_eq_getElem hk, Array.getElem?_eq_getElem (by omega)]
    simp only [Option.map_some]
    rw [if_pos ⟨by omega, by omega⟩, Nat.sub_zero, getElem!_pos d k hk]
  · rw [if_neg (by simpa using hk), List.getElem?_drop, Array.getElem?_toList]
    have e : d.size + (k - (d.toList.map enc).length) = k := by simp; omega
    rw [e]
    cases hc : c[k]? with
    | none => rfl
    | some x => simp only [Option.map_some]; rw [if_neg (by omega)]
theorem putRow_blk {α : Type} [Inhabited α] (enc : α → Value) {w : World} {b t : Nat} {cs : List Value} {d : Array α} {n : Nat} {os : Array Obj} (h : Blk w b t cs) (hl : d.size ≤ cs.length) :
    Blk (grow (putRow enc (Sort.ahead w n) b 0 d) os) b t (d.toList.map enc ++ cs.drop d.size) := by
  have hb := h.lt
  unfold Blk at h ⊢
  show ((w.heap.modify b (onCells (putCells enc 0 d))) ++ os)[b]? = _
  rw [Array.getElem?_append, if_pos (by simpa using hb), Array.getElem?_modify, if_pos rfl, h]
  simp only [Option.map_some, onCells]
  have e : putCells enc 0 d cs.toArray = (d.toList.map enc ++ cs.drop d.size).toArray := by
    apply Array.toList_inj.1
    rw [putCells_list enc d cs.toArray (by simpa using hl)]
  rw [e]
theorem putRow_fr {α : Type} [Inhabited α] (enc : α → Value) {w : World} {b : Nat} {d : Array α} {n : Nat} {os : Array Obj} : Fr (· = b) w (grow (putRow enc (Sort.ahead w n) b 0 d) os) := by
  refine ⟨rfl, rfl, rfl, ?_, fun k hk hn => ?_⟩
  · show w.heap.size ≤ ((w.heap.modify b _) ++ os).size
    simp
  · show ((w.heap.modify b (onCells (putCells enc 0 d))) ++ os)[k]? = _
    rw [Array.getElem?_append, if_pos (by simpa using hk), Array.getElem?_modify, if_neg (fun e => hn e.symm)]
theorem holds_of {α : Type} [Inhabited α] (enc : α → Value) {w : World} {b t : Nat} {cs : List Value} {d : Array α} (h : Blk w b t cs) (hc : cs.take d.size = d.toList.map enc) : Holds enc w b 0 d := by
  intro j hj
  have h1 : cs[j]? = some (enc d[j]!) := by
    have : (cs.take d.size)[j]? = some (enc d[j]!) := by
      rw [hc, List.getElem?_map, Array.getElem?_toList, Array.getElem?_eq_getElem hj]
      simp only [Option.map_some]; rw [getElem!_pos d j hj]
    rw [List.getElem?_take, if_pos hj] at this
    exact this
  refine ⟨?_, ?_⟩
  · rw [Nat.zero_add]; exact h.cell h1
  · unfold World.frozen?
    have := h
    unfold Blk at this
    simp only [Nat.zero_add, this]
    simp
theorem flatK_list {α : Type} [Inhabited α] (enc : α → List Value) (k : Nat) (hk : ∀ x, (enc x).length = k) (d : Array α) : (flatK enc k d).toList = d.toList.flatMap enc := by
  apply List.ext_getElem?
  intro t
  have key : ∀ (l : List α) (t : Nat), (l.flatMap enc)[t]? = if t < l.length * k then some ((enc (l[t / k]?.getD default))[t % k]!) else none := by
    intro l
    induction l with
    | nil => intro t; simp
    | cons x l ih =>
      intro t
      rw [List.flatMap_cons, List.getElem?_append]
      by_cases h : t < k
      · rw [if_pos (by rw [hk]; exact h), if_pos (by simp [Nat.add_mul]; omega), Nat.div_eq_of_lt h, Nat.mod_eq_of_lt h]
        have : t < (enc x).length := by rw [hk]; exact h
        simp [this]
      · have hk0 : 0 < k ∨ k = 0 := by omega
        rw [if_neg (by rw [hk]; exact h), hk, ih]
        rcases hk0 with hk0 | hk0
        · have e1 : t / k = (t - k) / k + 1 := by rw [← Nat.sub_add_cancel (show k ≤ t by omega), Nat.add_sub_cancel, Nat.add_div_right _ hk0]
          have e2 : t % k = (t - k) % k := by rw [Nat.mod_eq_sub_mod (by omega)]
          rw [e1, e2, List.getElem?_cons_succ]
          by_cases h2 : t - k < l.length * k
          · rw [if_pos h2, if_pos (by simp [Nat.add_mul]; omega)]
          · rw [if_neg h2, if_neg (by simp [Nat.add_mul]; omega)]
        · subst hk0; simp
  rw [key, Array.getElem?_toList]
  by_cases h : t < d.size * k
  · rw [if_pos (by simpa using h), Array.getElem?_eq_getElem (by simpa using h)]
    have := get_flatK enc k d t h
    rw [getElem!_pos _ t (by simpa using h)] at this
    rw [this]
    congr 3
    have hq : t / k < d.size := by
      rcases Nat.eq_zero_or_pos k with h0 | h0
      · subst h0; omega
      · exact (Nat.div_lt_iff_lt_mul h0).2 h
    rw [getElem!_pos d _ hq, Array.getElem?_toList, Array.getElem?_eq_getElem hq]; rfl
  · rw [if_neg (by simpa using h), Array.getElem?_eq_none (by simpa using h)]
/-- One operation that only computes, its value told: so a region of many can be gone through with values that are written out. -/
theorem ops_step {P : Program} {T : Tab} {all rest : List Oper} {o : Oper} {ρ : Env} {w : World} {K : Env → World → Prop} (v : Value) (hg : o.guard = none) (hp : isPure T o.op = true) (h : ∀ K' : Value → Prop, K' v → pureVC T ρ o.op K') (k : opsVC P T all rest (ρ.put o.dst v) w K) :
    opsVC P T all (o :: rest) ρ w K := by
  rw [opsVC_cons]
  unfold gdO
  rw [hg]
  show opVC P T ρ o.op o.type _ w
  unfold opVC
  rw [hp]
  exact h _ k
/-- The same, where the goal was written down with its guard. -/
theorem gd_step {P : Program} {T : Tab} {all : List Oper} {o : Oper} {ρ : Env} {w : World} {X : Env → Value → World → Prop} {skip : Env → Prop} (v : Value) (hg : o.guard = none) (hp : isPure T o.op = true) (h : ∀ K' : Value → Prop, K' v → pureVC T ρ o.op K') (k : X ρ v w) :
    gdO all o ρ (fun σ => opVC P T σ o.op o.type (fun v w' => X σ v w') w) skip := by
  unfold gdO
  rw [hg]
  show opVC P T ρ o.op o.type _ w
  unfold opVC
  rw [hp]
  exact h _ k
/-- A guarded operation that is done. -/
theorem gd_t {all : List Oper} {o : Oper} {ρ : Env} {run skip : Env → Prop} (j d : Nat) (hg : o.guard = some (j, true)) (hd : dstOf all j = some d) (hl : look ρ d = some (Value.bool true)) (k : run ((d, Value.bool true) :: ρ)) : gdO all o ρ run skip := by
  unfold gdO
  rw [hg]
  simp only [hd, hl]
  exact k
theorem codeVC_rg {P : Program} {T : Tab} {l : Nat} {ops : Array Oper} {ρ : Env} {w : World} {K : Ex → Env → World → Prop} : codeVC P T (.region l ops false) ρ w K = opsVC P T ops.toList ops.toList ρ w (K .norm) := rfl
theorem opsVC_nil {P : Program} {T : Tab} {all : List Oper} {ρ : Env} {w : World} {K : Env → World → Prop} : opsVC P T all [] ρ w K = K ρ w := rfl
/-- A row of one's own whose cells were written over. -/
theorem own_over {w w' : World} {base e size n g cap : Nat} {xs cur' ys : List Value} {cur : List Value} (h : w.ownsRow base e size (.slice (some ⟨g, 0, none⟩) n cap) n xs) (hb : Blk w g e cur)
    (hb' : Blk w' g e cur') (hl : cur'.length = cur.length) {m : Nat} (hm : m ≤ n) (ht : cur'.take (m * size) = ys) : w'.ownsRow base e size (.slice (some ⟨g, 0, none⟩) m cap) m ys := by
  obtain ⟨hxl, h | ⟨g', cap', cur0, hv, hbs, hc, hn, hcm, hs, _⟩⟩ := h
  · cases h.1
  · injection hv with hv1 _ hv3
    injection hv1 with hv1
    injection hv1 with hv1 _ _
    subst hv1 hv3
    have e0 : cur0.toList = cur := by
      unfold Blk at hb
      rw [hb] at hc
      injection hc with hc
      injection hc with hc _ _
      rw [← hc]
    have hcl : cur.length = cap * size := by rw [← e0]; simpa using hs
    refine ⟨?_, .inr ⟨g, cap, cur'.toArray, rfl, hbs, hb', by omega, hcm, by simp; omega, by simpa using ht⟩⟩
    rw [← ht, List.length_take, hl, hcl]
    exact Nat.min_eq_left (Nat.mul_le_mul_right _ (by omega))
end Go.Vc
/- append of any row, an empty row, and worlds that only draw and lay new blocks. -/
namespace Go.Vc
open Go.Sort
/-- append of a row that came in, or lies anywhere. -/
theorem ApA {P : Program} {T : Tab} (hT : T.Ok P) {t ty e : Nat} {q : Rec} (ht : T.d t = .slice e) (hq : look T.recs e = some q) (hz : q.zero.length = q.size) (hs : 0 < q.size)
    {w : World} {base n m c : Nat} {x : Addr} {v : Value} {xs news : List Value} {K : Value → World → Prop} (own : w.ownsRow base e q.size v n xs) (hbase : base ≤ w.heap.size)
    (hcell : ∀ j u, news[j]? = some u → w.cell? (x.add j) = some u) (hl : news.length = m * q.size) (h1 : news.all Value.oneCell' = true)
    (h63 : n + m ≤ 9223372036854775807) (hbytes : (n + m) * q.bytes ≤ 140737488355328)
    (k : ∀ v' w', w'.ownsRow base e q.size v' (n + m) (xs ++ news) → Fr (fun k => v.ownBlock = some k) w w' → K v' w') :
    RunC P (Builtin.append_ #[t, t] ty #[v, .slice (some x) m c]) w K := by
  obtain ⟨_, i, zv, hi, his, hby, hzv, hc⟩ := hT.recs e q hq
  have hzs : zv.cells.size = q.size := by rw [← Array.length_toList, hc, hz]
  obtain ⟨v', w', hr, ho, hg, _, _⟩ := run_append_own_at (P := P) w base t ty e i zv q.size q.bytes (und_slice hT ht) hi hzv his hby hzs hs v n xs own x m c news hl hcell (fun u hu => List.all_eq_true.1 h1 u hu) (by simpa [maxLen] using h63) hbytes hbase
  exact RunC_intro hr (k v' w' ho ⟨hg.os, hg.tape, hg.output, hg.size, fun j hj hn => hg.block j hj (fun e => hn e.symm)⟩)
/-- An empty row, made. -/
theorem own_empty {w : World} {base b t size : Nat} (h : Blk w b t []) (hb : base ≤ b) : w.ownsRow base t size (.slice (some ⟨b, 0, none⟩) 0 0) 0 [] :=
  ⟨by simp, .inr ⟨b, 0, #[], rfl, hb, h, Nat.le_refl _, Nat.zero_le _, by simp, by simp⟩⟩
/-- What only draws, and lays new blocks. -/
def Ex' (w w' : World) : Prop := ∃ q os, w' = grow (w.drewN q) os
theorem NewC_ex {w : World} {cs : List Value} {t : TypeId} {K : Nat → World → Prop} (k : ∀ b w', b = w.heap.size → Blk w' b t cs → Fr No w w' → w'.heap.size = b + 1 → w' = w.alloc (.cells cs.toArray t) → K b w') : NewC w (.cells cs.toArray t) K :=
  NewC_intro (NewC_elim (NewC_blk (fun b w' hb h1 f s => show w' = w.alloc (.cells cs.toArray t) → b = w.heap.size → K b w' from fun e _ => k b w' hb h1 f s e)) rfl rfl)
theorem Ex'.refl (w : World) : Ex' w w := ⟨0, #[], by simp [World.drewN]⟩
theorem Ex'.new {w w1 : World} (h : Ex' w w1) (o : Obj) : Ex' w (w1.alloc o) := by
  obtain ⟨q, os, rfl⟩ := h
  exact ⟨q, os ++ #[o], by rw [alloc_eq_grow, grow_grow]⟩
theorem Ex'.drew {w w1 : World} (h : Ex' w w1) : Ex' w w1.drew := by
  obtain ⟨q, os, rfl⟩ := h
  exact ⟨q + 1, os, by simp [World.drewN, World.drew, grow, Nat.add_assoc]⟩
theorem Ex'.fr {w w1 : World} (h : Ex' w w1) : Fr No w w1 := by
  obtain ⟨q, os, rfl⟩ := h
  refine ⟨rfl, rfl, rfl, by simp [grow, World.drewN], fun k hk _ => ?_⟩
  show (w.heap ++ os)[k]? = _
  rw [Array.getElem?_append, if_pos hk]
end Go.Vc
