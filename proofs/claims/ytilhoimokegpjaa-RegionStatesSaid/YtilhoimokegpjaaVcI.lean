/- Slices: what is appended to, and what came in. -/
import Derived.Test.YtilhoimokegpjaaVcH
import Derived.Maps.AppendAt
namespace Go.Vc

/-- A field of an element. -/
theorem LdC_idx2 {w : World} {b t o m n : Nat} {cs : List Value} {K : Value → Prop} {v : Value} (h : Blk w b t cs) (hc : cs[o + m + n]? = some v) (k : K v) : LdC w (((Addr.mk b o none).add m).add n) K := by
  rw [add_add']; exact LdC_blk h hc k
theorem LdS_idx2 {w : World} {b t o m n : Nat} {cs : List Value} {K : Value → Prop} {v : Value} (h : Blk w b t cs) (hc : cs[o + m + n]? = some v) (k : K v) : LdS (Old w) (((Addr.mk b o none).add m).add n) K := by
  rw [add_add']; exact LdS_blk h hc k
theorem StC_idx2 {w : World} {b t o m n : Nat} {cs : List Value} {K : World → Prop} {v u : Value} (h : Blk w b t cs) (h1 : v.oneCell' = true) (hc : cs[o + m + n]? = some u)
    (k : ∀ w', Blk w' b t (cs.set (o + m + n) v) → Fr (· = b) w w' → w'.heap.size = w.heap.size → K w') : StC w (((Addr.mk b o none).add m).add n) v K := by
  rw [add_add']; exact StC_blk h h1 hc k
/-- A slice of one's own, read and kept. -/
theorem own_cases {w : World} {base e size n : Nat} {v : Value} {xs : List Value} (h : w.ownsRow base e size v n xs) :
    (v = .slice none 0 0 ∧ n = 0 ∧ xs = []) ∨ ∃ g cap cur, v = .slice (some ⟨g, 0, none⟩) n cap ∧ base ≤ g ∧ Blk w g e cur ∧ cur.take (n * size) = xs ∧ n ≤ cap := by
  obtain ⟨hl, h | ⟨g, cap, cur, hv, hb, hc, hn, _, _, ht⟩⟩ := h
  · obtain ⟨rfl, rfl⟩ := h
    exact .inl ⟨rfl, rfl, List.eq_nil_of_length_eq_zero (by simpa using hl)⟩
  · exact .inr ⟨g, cap, cur.toList, hv, hb, by unfold Blk; rw [hc], ht, hn⟩
theorem own_slice {w : World} {base e size n : Nat} {v : Value} {xs : List Value} (h : w.ownsRow base e size v n xs) : ∃ a c, v = .slice a n c := by
  rcases own_cases h with ⟨rfl, rfl, _⟩ | ⟨g, cap, cur, rfl, _⟩
  · exact ⟨_, _, rfl⟩
  · exact ⟨_, _, rfl⟩
theorem own_keep {w w' : World} {base e size n : Nat} {v : Value} {xs : List Value} {F : Nat → Prop} (h : w.ownsRow base e size v n xs) (f : Fr F w w') (hF : ∀ k, base ≤ k → ¬ F k) : w'.ownsRow base e size v n xs := by
  obtain ⟨hl, h | ⟨g, cap, cur, hv, hb, hc, hn, hm, hs, ht⟩⟩ := h
  · exact ⟨hl, .inl h⟩
  · have hlt : g < w.heap.size := by
      rcases Nat.lt_or_ge g w.heap.size with h' | h'
      · exact h'
      · rw [Array.getElem?_eq_none h'] at hc; cases hc
    exact ⟨hl, .inr ⟨g, cap, cur, hv, hb, (f.blk g hlt (hF g hb)).trans hc, hn, hm, hs, ht⟩⟩
theorem own_ge {w : World} {base e size n : Nat} {v : Value} {xs : List Value} (h : w.ownsRow base e size v n xs) (k : Nat) (hk : v.ownBlock = some k) : base ≤ k := (h.lt k hk).1
/-- append. -/
theorem ApC {P : Program} {T : Tab} (hT : T.Ok P) {t ty e : Nat} {q : Rec} (ht : T.d t = .slice e) (hq : look T.recs e = some q) (hz : q.zero.length = q.size) (hs : 0 < q.size)
    {w : World} {base n bx ox m c te : Nat} {v : Value} {xs cs news : List Value} {K : Value → World → Prop} (own : w.ownsRow base e q.size v n xs) (hbase : base ≤ w.heap.size)
    (hx : Blk w bx te cs) (hcs : (cs.drop ox).take (m * q.size) = news) (hl : news.length = m * q.size) (h1 : news.all Value.oneCell' = true)
    (h63 : n + m ≤ 9223372036854775807) (hbytes : (n + m) * q.bytes ≤ 140737488355328)
    (k : ∀ v' w', w'.ownsRow base e q.size v' (n + m) (xs ++ news) → Fr (fun k => v.ownBlock = some k) w w' → K v' w') :
    RunC P (Builtin.append_ #[t, t] ty #[v, .slice (some ⟨bx, ox, none⟩) m c]) w K := by
  obtain ⟨_, i, zv, hi, his, hby, hzv, hc⟩ := hT.recs e q hq
  have hcell : ∀ j u, news[j]? = some u → w.cell? ((⟨bx, ox, none⟩ : Addr).add j) = some u := by
    intro j u hj
    rw [add_of]
    refine hx.cell ?_
    rw [← hcs, List.getElem?_take] at hj
    split at hj
    · rw [List.getElem?_drop] at hj; exact hj
    · cases hj
  have hzs : zv.cells.size = q.size := by rw [← Array.length_toList, hc, hz]
  obtain ⟨v', w', hr, ho, hg, _, _⟩ := run_append_own_at (P := P) w base t ty e i zv q.size q.bytes (und_slice hT ht) hi hzv his hby hzs hs v n xs own ⟨bx, ox, none⟩ m c news hl hcell (fun u hu => List.all_eq_true.1 h1 u hu) (by simpa [maxLen] using h63) hbytes hbase
  exact RunC_intro hr (k v' w' ho ⟨hg.os, hg.tape, hg.output, hg.size, fun j hj hn => hg.block j hj (fun e => hn e.symm)⟩)
/-- A row that came in: its cells. -/
def RowArg (w : World) (k : IntKind) (a : Option Addr) (len : Nat) (zs : List Int) : Prop :=
  (a = none ∧ len = 0 ∧ zs = []) ∨ ∃ x, a = some x ∧ len ≤ zs.length ∧ (∀ (i : Nat) (z : Int), zs[i]? = some z → w.cell? (x.add i) = some (.int k z))
theorem RowArg.keep {w w' : World} {k : IntKind} {a : Option Addr} {len : Nat} {zs : List Int} (h : RowArg w k a len zs) (f : Fr No w w') : RowArg w' k a len zs := by
  rcases h with h | ⟨x, ha, hl, hc⟩
  · exact .inl h
  · refine .inr ⟨x, ha, hl, fun i z hi => ?_⟩
    have h1 := hc i z hi
    have hb := World.block_lt_of_cell? w (x.add i) h1
    unfold World.cell? at h1 ⊢
    rw [f.blk (x.add i).block hb (fun e => e)]; exact h1
end Go.Vc
