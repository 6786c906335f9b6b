/- What the library's sorts do to a row of one's own. -/
import Derived.Test.YtdhbpklmkibmbaaGreatVcI
import Derived.Shelf.GgSortFunc.RowK
namespace Go.Vc
open Go.Sort

theorem putCells_list {α : Type} [Inhabited α] (enc : α → Value) (d : Array α) (c : Array Value) (h : d.size ≤ c.size) :
    (putCells enc 0 d c).toList = d.toList.map enc ++ c.toList.drop d.size := by
  apply List.ext_getElem?
  intro k
  simp only [putCells, Array.getElem?_toList, Array.getElem?_mapIdx]
  rw [List.getElem?_append]
  by_cases hk : k < d.size
  · rw [if_pos (by simpa using hk), List.getElem?_map, Array.getElem?_toList, Array.getElem?_eq_getElem hk, Array.getElem?_eq_getElem (by omega)]
    simp only [Option.map_some]
    rw [if_pos ⟨by omega, by omega⟩, Nat.sub_zero, getElem!_pos d k hk]
  · rw [if_neg (by simpa using hk), List.getElem?_drop, Array.getElem?_toList]
    have e : d.size + (k - (d.toList.map enc).length) = k := by simp; omega
    rw [e]
    cases hc : c[k]? with
    | none => rfl
    | some x => simp only [Option.map_some]; rw [if_neg (by omega)]
theorem putRow_blk {α : Type} [Inhabited α] (enc : α → Value) {w : World} {b t : Nat} {cs : List Value} {d : Array α} {n : Nat} {os : Array Obj} (h : Blk w b t cs) (hl : d.size ≤ cs.length) :
    Blk (grow (putRow enc (Sort.ahead w n) b 0 d) os) b t (d.toList.map enc ++ cs.drop d.size) := by
  have hb := h.lt
  unfold Blk at h ⊢
  show ((w.heap.modify b (onCells (putCells enc 0 d))) ++ os)[b]? = _
  rw [Array.getElem?_append, if_pos (by simpa using hb), Array.getElem?_modify, if_pos rfl, h]
  simp only [Option.map_some, onCells]
  have e : putCells enc 0 d cs.toArray = (d.toList.map enc ++ cs.drop d.size).toArray := by
    apply Array.toList_inj.1
    rw [putCells_list enc d cs.toArray (by simpa using hl)]
  rw [e]
theorem putRow_fr {α : Type} [Inhabited α] (enc : α → Value) {w : World} {b : Nat} {d : Array α} {n : Nat} {os : Array Obj} : Fr (· = b) w (grow (putRow enc (Sort.ahead w n) b 0 d) os) := by
  refine ⟨rfl, rfl, rfl, ?_, fun k hk hn => ?_⟩
  · show w.heap.size ≤ ((w.heap.modify b _) ++ os).size
    simp
  · show ((w.heap.modify b (onCells (putCells enc 0 d))) ++ os)[k]? = _
    rw [Array.getElem?_append, if_pos (by simpa using hk), Array.getElem?_modify, if_neg (fun e => hn e.symm)]
theorem holds_of {α : Type} [Inhabited α] (enc : α → Value) {w : World} {b t : Nat} {cs : List Value} {d : Array α} (h : Blk w b t cs) (hc : cs.take d.size = d.toList.map enc) : Holds enc w b 0 d := by
  intro j hj
  have h1 : cs[j]? = some (enc d[j]!) := by
    have : (cs.take d.size)[j]? = some (enc d[j]!) := by
      rw [hc, List.getElem?_map, Array.getElem?_toList, Array.getElem?_eq_getElem hj]
      simp only [Option.map_some]; rw [getElem!_pos d j hj]
    rw [List.getElem?_take, if_pos hj] at this
    exact this
  refine ⟨?_, ?_⟩
  · rw [Nat.zero_add]; exact h.cell h1
  · unfold World.frozen?
    have := h
    unfold Blk at this
    simp only [Nat.zero_add, this]
    simp
theorem flatK_list {α : Type} [Inhabited α] (enc : α → List Value) (k : Nat) (hk : ∀ x, (enc x).length = k) (d : Array α) : (flatK enc k d).toList = d.toList.flatMap enc := by
  apply List.ext_getElem?
  intro t
  have key : ∀ (l : List α) (t : Nat), (l.flatMap enc)[t]? = if t < l.length * k then some ((enc (l[t / k]?.getD default))[t % k]!) else none := by
    intro l
    induction l with
    | nil => intro t; simp
    | cons x l ih =>
      intro t
      rw [List.flatMap_cons, List.getElem?_append]
      by_cases h : t < k
      · rw [if_pos (by rw [hk]; exact h), if_pos (by simp [Nat.add_mul]; omega), Nat.div_eq_of_lt h, Nat.mod_eq_of_lt h]
        have : t < (enc x).length := by rw [hk]; exact h
        simp [this]
      · have hk0 : 0 < k ∨ k = 0 := by omega
        rw [if_neg (by rw [hk]; exact h), hk, ih]
        rcases hk0 with hk0 | hk0
        · have e1 : t / k = (t - k) / k + 1 := by rw [← Nat.sub_add_cancel (show k ≤ t by omega), Nat.add_sub_cancel, Nat.add_div_right _ hk0]
          have e2 : t % k = (t - k) % k := by rw [Nat.mod_eq_sub_mod (by omega)]
          rw [e1, e2, List.getElem?_cons_succ]
          by_cases h2 : t - k < l.length * k
          · rw [if_pos h2, if_pos (by simp [Nat.add_mul]; omega)]
          · rw [if_neg h2, if_neg (by simp [Nat.add_mul]; omega)]
        · subst hk0; simp
  rw [key, Array.getElem?_toList]
  by_cases h : t < d.size * k
  · rw [if_pos (by simpa using h), Array.getElem?_eq_getElem (by simpa using h)]
    have := get_flatK enc k d t h
    rw [getElem!_pos _ t (by simpa using h)] at this
    rw [this]
    congr 3
    have hq : t / k < d.size := by
      rcases Nat.eq_zero_or_pos k with h0 | h0
      · subst h0; omega
      · exact (Nat.div_lt_iff_lt_mul h0).2 h
    rw [getElem!_pos d _ hq, Array.getElem?_toList, Array.getElem?_eq_getElem hq]; rfl
  · rw [if_neg (by simpa using h), Array.getElem?_eq_none (by simpa using h)]
/-- One operation that only computes, its value told: so a region of many can be gone through with values that are written out. -/
theorem ops_step {P : Program} {T : Tab} {all rest : List Oper} {o : Oper} {ρ : Env} {w : World} {K : Env → World → Prop} (v : Value) (hg : o.guard = none) (hp : isPure T o.op = true) (h : ∀ K' : Value → Prop, K' v → pureVC T ρ o.op K') (k : opsVC P T all rest (ρ.put o.dst v) w K) :
    opsVC P T all (o :: rest) ρ w K := by
  rw [opsVC_cons]
  unfold gdO
  rw [hg]
  show opVC P T ρ o.op o.type _ w
  unfold opVC
  rw [hp]
  exact h _ k
/-- The same, where the goal was written down with its guard. -/
theorem gd_step {P : Program} {T : Tab} {all : List Oper} {o : Oper} {ρ : Env} {w : World} {X : Env → Value → World → Prop} {skip : Env → Prop} (v : Value) (hg : o.guard = none) (hp : isPure T o.op = true) (h : ∀ K' : Value → Prop, K' v → pureVC T ρ o.op K') (k : X ρ v w) :
    gdO all o ρ (fun σ => opVC P T σ o.op o.type (fun v w' => X σ v w') w) skip := by
  unfold gdO
  rw [hg]
  show opVC P T ρ o.op o.type _ w
  unfold opVC
  rw [hp]
  exact h _ k
/-- A guarded operation that is done. -/
theorem gd_t {all : List Oper} {o : Oper} {ρ : Env} {run skip : Env → Prop} (j d : Nat) (hg : o.guard = some (j, true)) (hd : dstOf all j = some d) (hl : look ρ d = some (Value.bool true)) (k : run ((d, Value.bool true) :: ρ)) : gdO all o ρ run skip := by
  unfold gdO
  rw [hg]
  simp only [hd, hl]
  exact k
theorem codeVC_rg {P : Program} {T : Tab} {l : Nat} {ops : Array Oper} {ρ : Env} {w : World} {K : Ex → Env → World → Prop} : codeVC P T (.region l ops false) ρ w K = opsVC P T ops.toList ops.toList ρ w (K .norm) := rfl
theorem opsVC_nil {P : Program} {T : Tab} {all : List Oper} {ρ : Env} {w : World} {K : Env → World → Prop} : opsVC P T all [] ρ w K = K ρ w := rfl
/-- A row of one's own whose cells were written over. -/
theorem own_over {w w' : World} {base e size n g cap : Nat} {xs cur' ys : List Value} {cur : List Value} (h : w.ownsRow base e size (.slice (some ⟨g, 0, none⟩) n cap) n xs) (hb : Blk w g e cur)
    (hb' : Blk w' g e cur') (hl : cur'.length = cur.length) {m : Nat} (hm : m ≤ n) (ht : cur'.take (m * size) = ys) : w'.ownsRow base e size (.slice (some ⟨g, 0, none⟩) m cap) m ys := by
  obtain ⟨hxl, h | ⟨g', cap', cur0, hv, hbs, hc, hn, hcm, hs, _⟩⟩ := h
  · cases h.1
  · injection hv with hv1 _ hv3
    injection hv1 with hv1
    injection hv1 with hv1 _ _
    subst hv1 hv3
    have e0 : cur0.toList = cur := by
      unfold Blk at hb
      rw [hb] at hc
      injection hc with hc
      injection hc with hc _ _
      rw [← hc]
    have hcl : cur.length = cap * size := by rw [← e0]; simpa using hs
    refine ⟨?_, .inr ⟨g, cap, cur'.toArray, rfl, hbs, hb', by omega, hcm, by simp; omega, by simpa using ht⟩⟩
    rw [← ht, List.length_take, hl, hcl]
    exact Nat.min_eq_left (Nat.mul_le_mul_right _ (by omega))
end Go.Vc
