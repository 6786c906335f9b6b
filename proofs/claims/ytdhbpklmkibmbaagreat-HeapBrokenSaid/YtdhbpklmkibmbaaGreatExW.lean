/- append of any row, an empty row, and worlds that only draw and lay new blocks. -/
import Derived.Test.YtdhbpklmkibmbaaGreatVcL
import Derived.Test.YtdhbpklmkibmbaaGreatSortW
namespace Go.Vc
open Go.Sort
/-- append of a row that came in, or lies anywhere. -/
theorem ApA {P : Program} {T : Tab} (hT : T.Ok P) {t ty e : Nat} {q : Rec} (ht : T.d t = .slice e) (hq : look T.recs e = some q) (hz : q.zero.length = q.size) (hs : 0 < q.size)
    {w : World} {base n m c : Nat} {x : Addr} {v : Value} {xs news : List Value} {K : Value → World → Prop} (own : w.ownsRow base e q.size v n xs) (hbase : base ≤ w.heap.size)
    (hcell : ∀ j u, news[j]? = some u → w.cell? (x.add j) = some u) (hl : news.length = m * q.size) (h1 : news.all Value.oneCell' = true)
    (h63 : n + m ≤ 9223372036854775807) (hbytes : (n + m) * q.bytes ≤ 140737488355328)
    (k : ∀ v' w', w'.ownsRow base e q.size v' (n + m) (xs ++ news) → Fr (fun k => v.ownBlock = some k) w w' → K v' w') :
    RunC P (Builtin.append_ #[t, t] ty #[v, .slice (some x) m c]) w K := by
  obtain ⟨_, i, zv, hi, his, hby, hzv, hc⟩ := hT.recs e q hq
  have hzs : zv.cells.size = q.size := by rw [← Array.length_toList, hc, hz]
  obtain ⟨v', w', hr, ho, hg, _, _⟩ := run_append_own_at (P := P) w base t ty e i zv q.size q.bytes (und_slice hT ht) hi hzv his hby hzs hs v n xs own x m c news hl hcell (fun u hu => List.all_eq_true.1 h1 u hu) (by simpa [maxLen] using h63) hbytes hbase
  exact RunC_intro hr (k v' w' ho ⟨hg.os, hg.tape, hg.output, hg.size, fun j hj hn => hg.block j hj (fun e => hn e.symm)⟩)
/-- An empty row, made. -/
theorem own_empty {w : World} {base b t size : Nat} (h : Blk w b t []) (hb : base ≤ b) : w.ownsRow base t size (.slice (some ⟨b, 0, none⟩) 0 0) 0 [] :=
  ⟨by simp, .inr ⟨b, 0, #[], rfl, hb, h, Nat.le_refl _, Nat.zero_le _, by simp, by simp⟩⟩
/-- What only draws, and lays new blocks. -/
def Ex' (w w' : World) : Prop := ∃ q os, w' = grow (w.drewN q) os
theorem NewC_ex {w : World} {cs : List Value} {t : TypeId} {K : Nat → World → Prop} (k : ∀ b w', b = w.heap.size → Blk w' b t cs → Fr No w w' → w'.heap.size = b + 1 → w' = w.alloc (.cells cs.toArray t) → K b w') : NewC w (.cells cs.toArray t) K :=
  NewC_intro (NewC_elim (NewC_blk (fun b w' hb h1 f s => show w' = w.alloc (.cells cs.toArray t) → b = w.heap.size → K b w' from fun e _ => k b w' hb h1 f s e)) rfl rfl)
theorem Ex'.refl (w : World) : Ex' w w := ⟨0, #[], by simp [World.drewN]⟩
theorem Ex'.new {w w1 : World} (h : Ex' w w1) (o : Obj) : Ex' w (w1.alloc o) := by
  obtain ⟨q, os, rfl⟩ := h
  exact ⟨q, os ++ #[o], by rw [alloc_eq_grow, grow_grow]⟩
theorem Ex'.drew {w w1 : World} (h : Ex' w w1) : Ex' w w1.drew := by
  obtain ⟨q, os, rfl⟩ := h
  exact ⟨q + 1, os, by simp [World.drewN, World.drew, grow, Nat.add_assoc]⟩
theorem Ex'.fr {w w1 : World} (h : Ex' w w1) : Fr No w w1 := by
  obtain ⟨q, os, rfl⟩ := h
  refine ⟨rfl, rfl, rfl, by simp [grow, World.drewN], fun k hk _ => ?_⟩
  show (w.heap ++ os)[k]? = _
  rw [Array.getElem?_append, if_pos hk]
end Go.Vc
