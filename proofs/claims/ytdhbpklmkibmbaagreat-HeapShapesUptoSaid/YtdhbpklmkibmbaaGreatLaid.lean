/- Heaps that are laid object by object, in plain Lean: no program in sight. -/
import Derived.Test.YtdhbpklmkibmbaaGreatHeapS
namespace Go.Proofs.YtdhbpklmkibmbaaGreat
open Go.Vc

/-- The words at an address. -/
def Seg (ws : List Int) (a : Int) (W : List Int) : Prop := 0 ≤ a ∧ ∀ (j : Nat) (x : Int), W[j]? = some x → ws[a.toNat + j]? = some x
abbrev LObj := Int × List Int
/-- An object's words: a header, references, data. -/
def ObjW (W : List Int) (p : Nat) : Prop := W[0]? = some (headW (W.length : Int) (p : Int) 0) ∧ p < W.length ∧ W.length ≤ 1048576
def ptB (W : List Int) : Nat := match unp (W.headD 0) with | some h => h.ptrs.toNat | none => 0
theorem ObjW.unp {W : List Int} {p : Nat} (h : ObjW W p) : unp (headW (W.length : Int) (p : Int) 0) = some ⟨1, W.length, p, 0, 0⟩ := by
  obtain ⟨_, h1, h2⟩ := h
  exact unp_obj (by omega) (by omega) (by omega) (by omega) (by decide) (by decide)
theorem ObjW.ptB {W : List Int} {p : Nat} (h : ObjW W p) : ptB W = p := by
  have h0 : W.headD 0 = headW (W.length : Int) (p : Int) 0 := by
    have := h.1
    cases W with
    | nil => cases this
    | cons x r => injection this
  unfold Go.Proofs.YtdhbpklmkibmbaaGreat.ptB
  rw [h0, h.unp]; rfl
theorem Seg.hdr {ws W : List Int} {a : Int} {p : Nat} (h : Seg ws a W) (o : ObjW W p) : hdr ws a = some ⟨1, W.length, p, 0, 0⟩ := by
  have := h.2 0 _ o.1
  rw [hdr_some h.1 (by rw [Nat.add_zero] at this; exact this), o.unp]
/-- An object, as it is read. -/
def obB (b : LObj) : Ob := ⟨b.1, (b.2.drop 1).take (ptB b.2), b.2.drop (1 + ptB b.2)⟩
theorem wordsAt_seg {ws W : List Int} {a : Int} (h : Seg ws a W) (i n : Nat) (hn : i + n ≤ W.length) : wordsAt ws (a + i) n = (W.drop i).take n := by
  obtain ⟨h0, h⟩ := h
  apply List.ext_getElem?
  intro k
  unfold wordsAt
  rw [List.getElem?_map, List.getElem?_take]
  by_cases hk : k < n
  · rw [List.getElem?_range hk, if_pos hk, List.getElem?_drop]
    have hl : i + k < W.length := by omega
    have := h (i + k) _ (List.getElem?_eq_getElem hl)
    rw [List.getElem?_eq_getElem hl]
    show some ((ws[(a + (i : Int) + (k : Int)).toNat]?).getD 0) = _
    rw [show (a + (i : Int) + (k : Int)).toNat = a.toNat + (i + k) by omega, this]; rfl
  · rw [if_neg hk, List.getElem?_eq_none (by simp; omega)]; rfl
theorem Seg.obOf {ws W : List Int} {a : Int} {p : Nat} (h : Seg ws a W) (o : ObjW W p) : obOf ws a ⟨1, W.length, p, 0, 0⟩ = obB (a, W) := by
  have hp := o.2.1
  unfold Go.Proofs.YtdhbpklmkibmbaaGreat.obOf obB
  dsimp only
  rw [o.ptB, show ((p : Int)).toNat = p by omega, show (((W.length : Int) - 1 - (p : Int))).toNat = W.length - 1 - p by omega]
  have e1 := wordsAt_seg h 1 p (by omega)
  have e2 := wordsAt_seg h (1 + p) (W.length - 1 - p) (by omega)
  rw [show a + ((1 + p : Nat) : Int) = a + 1 + (p : Int) by omega] at e2
  rw [show a + ((1 : Nat) : Int) = a + 1 by omega] at e1
  rw [e1, e2]
  congr 1
  rw [List.take_of_length_le (by rw [List.length_drop]; omega)]
def Off (b d : LObj) : Prop := b.1 + b.2.length ≤ d.1 ∨ d.1 + d.2.length ≤ b.1
/-- A heap that is laid: F is how far a region's row goes, E how far its words are taken, H are big ones that are not made yet. -/
structure Laid (c : Cfg) (ws : List Int) (rs : List R) (F E : Int → Int) (H : Int → Prop) (B : List LObj) : Prop where
  objs : ∀ b ∈ B, Seg ws b.1 b.2 ∧ ∃ p, ObjW b.2 p
  apart : B.Pairwise Off
  occ : ∀ b ∈ B, ∀ x : Int, b.1 ≤ x → x < b.1 + b.2.length → stS rs (x / P c) ≠ 0 ∧ (plainP (stS rs (x / P c)) → x < E (x / P c))
  plain : ∀ k, plainP (stS rs k) → ∃ l, Tile ws (k * P c) (F k) l ∧ ∀ a, a ∈ l ↔ ∃ b ∈ B, b.1 = a ∧ a / P c = k
  hum : ∀ k, stS rs k = 4 → H k ∨ ∃ b ∈ B, b.1 = k * P c ∧ wholeP c rs k b.2.length
  home : ∀ b ∈ B, plainP (stS rs (b.1 / P c)) ∨ (stS rs (b.1 / P c) = 4 ∧ b.1 = b.1 / P c * P c)
  st : ∀ k, stS rs k = 0 ∨ stS rs k = 5 ∨ stS rs k = 4 ∨ plainP (stS rs k)
section
variable {c : Cfg} {ws : List Int} {rs : List R} {F E : Int → Int} {H : Int → Prop} {B : List LObj}
theorem Laid.len (h : Laid c ws rs F E H B) : ∀ b ∈ B, 0 ≤ b.1 ∧ 1 ≤ b.2.length ∧ b.2.length ≤ 1048576 := fun b hb => by
  obtain ⟨h1, p, h2⟩ := h.objs b hb
  have := h2.2
  exact ⟨h1.1, by omega, by omega⟩
/-- What isn't taken is nobody's. -/
theorem Laid.fresh (h : Laid c ws rs F E H B) {a n : Int} (hn : 1 ≤ n) (hf : ∀ x, a ≤ x → x < a + n → stS rs (x / P c) = 0 ∨ (plainP (stS rs (x / P c)) ∧ E (x / P c) ≤ x)) : ∀ b ∈ B, b.1 + b.2.length ≤ a ∨ a + n ≤ b.1 := by
  intro b hb
  apply Classical.byContradiction
  intro hc
  rw [not_or] at hc
  have hl := h.len b hb
  -- an address that both have
  have key : ∃ x : Int, (b.1 ≤ x ∧ x < b.1 + b.2.length) ∧ a ≤ x ∧ x < a + n := by
    by_cases q : a ≤ b.1
    · exact ⟨b.1, by omega, by omega⟩
    · exact ⟨a, by omega, by omega⟩
  obtain ⟨x, ⟨x1, x2⟩, x3, x4⟩ := key
  have h1 := h.occ b hb x x1 x2
  rcases hf x x3 x4 with h2 | ⟨h2, h3⟩
  · exact h1.1 h2
  · have := h1.2 h2; omega
/-- Words are taken. -/
theorem Laid.take (h : Laid c ws rs F E H B) {rs' : List R} {F' E' : Int → Int} {H' : Int → Prop}
    (hst : ∀ k, stS rs k ≠ 0 → stS rs' k = stS rs k) (hE : ∀ k, plainP (stS rs k) → E k ≤ E' k)
    (hp : ∀ k, plainP (stS rs' k) → (plainP (stS rs k) ∧ F' k = F k) ∨ (stS rs k = 0 ∧ F' k = k * P c))
    (hH : ∀ k, stS rs' k = 4 → (stS rs k = 4 ∧ (H k → H' k)) ∨ H' k)
    (hs : ∀ k, stS rs' k = 0 ∨ stS rs' k = 5 ∨ stS rs' k = 4 ∨ plainP (stS rs' k)) : Laid c ws rs' F' E' H' B where
  objs := h.objs
  apart := h.apart
  occ := fun b hb x x1 x2 => by
    obtain ⟨h1, h2⟩ := h.occ b hb x x1 x2
    rw [hst _ h1]
    exact ⟨h1, fun q => Int.lt_of_lt_of_le (h2 q) (hE _ q)⟩
  plain := fun k hk => by
    rcases hp k hk with ⟨h1, h2⟩ | ⟨h1, h2⟩
    · rw [h2]; exact h.plain k h1
    · rw [h2]
      refine ⟨[], Tile.nil _, fun a => ⟨fun e => (by cases e), ?_⟩⟩
      rintro ⟨b, hb, rfl, e⟩
      rcases h.home b hb with h3 | h3
      · rw [e, h1] at h3; exact absurd h3.1 (by decide)
      · rw [e, h1] at h3; exact absurd h3.1 (by decide)
  hum := fun k hk => by
    rcases hH k hk with ⟨h1, h2⟩ | h1
    · rcases h.hum k h1 with h3 | ⟨b, hb, h3, h4, h5⟩
      · exact .inl (h2 h3)
      · refine .inr ⟨b, hb, h3, fun j j1 j2 => ?_, h5⟩
        have := h4 j j1 j2
        rw [hst _ (by rw [this]; decide)]; exact this
    · exact .inl h1
  home := fun b hb => by
    rcases h.home b hb with h1 | ⟨h1, h2⟩
    · rw [hst _ (fun e => by rw [e] at h1; exact absurd h1.1 (by decide))]; exact .inl h1
    · rw [hst _ (by rw [h1]; decide)]; exact .inr ⟨h1, h2⟩
  st := hs
/-- An object is made in words that were taken. -/
theorem Laid.make (h : Laid c ws rs F E H B) {ws' : List Int} {F' : Int → Int} {H' : Int → Prop} {a : Int} {W : List Int} {p : Nat}
    (hS : Seg ws' a W) (hW : ObjW W p) (hfr : ∀ b ∈ B, b.1 + b.2.length ≤ a ∨ a + W.length ≤ b.1)
    (hag : ∀ x : Int, 0 ≤ x → (x < a ∨ a + W.length ≤ x) → ws'[x.toNat]? = ws[x.toNat]?)
    (hocc : ∀ x : Int, a ≤ x → x < a + W.length → stS rs (x / P c) ≠ 0 ∧ (plainP (stS rs (x / P c)) → x < E (x / P c)))
    (hn : plainP (stS rs (a / P c)) ∨ (stS rs (a / P c) = 4 ∧ a = a / P c * P c))
    (hF : ∀ k, plainP (stS rs k) → F' k = if a / P c = k then a + W.length else F k) (hFa : plainP (stS rs (a / P c)) → F (a / P c) = a)
    (hH : ∀ k, stS rs k = 4 → H k → H' k ∨ (k * P c = a ∧ wholeP c rs k W.length)) : Laid c ws' rs F' E H' (B ++ [(a, W)]) := by
  have hl := h.len
  have hseg : ∀ b ∈ B, Seg ws' b.1 b.2 := fun b hb => by
    obtain ⟨h1, h2⟩ := (h.objs b hb).1
    refine ⟨h1, fun j x hx => ?_⟩
    have hj := (List.getElem?_eq_some_iff.1 hx).1
    have hf := hfr b hb
    have := hag (b.1 + j) (by omega) (by omega)
    rw [show (b.1 + (j : Int)).toNat = b.1.toNat + j by omega] at this
    rw [this]; exact h2 j x hx
  have hhd : ∀ b ∈ B, hdr ws' b.1 = hdr ws b.1 := fun b hb => hdr_congr fun h0 => by
    have hf := hfr b hb
    have := hl b hb
    exact hag b.1 h0 (by have := hW.2.1; omega)
  refine ⟨fun b hb => ?_, ?_, fun b hb => ?_, fun k hk => ?_, fun k hk => ?_, fun b hb => ?_, h.st⟩
  · rcases List.mem_append.1 hb with hb | hb
    · exact ⟨hseg b hb, (h.objs b hb).2⟩
    · obtain rfl := List.mem_singleton.1 hb
      exact ⟨hS, p, hW⟩
  · refine List.pairwise_append.2 ⟨h.apart, List.pairwise_singleton _ _, fun b hb d hd => ?_⟩
    obtain rfl := List.mem_singleton.1 hd
    exact hfr b hb
  · rcases List.mem_append.1 hb with hb | hb
    · exact h.occ b hb
    · obtain rfl := List.mem_singleton.1 hb
      exact hocc
  · obtain ⟨l, h1, h2⟩ := h.plain k hk
    have hT : Tile ws' (k * P c) (F k) l := h1.congr fun x hx => by
      obtain ⟨b, hb, e, _⟩ := (h2 x).1 hx
      rw [← e]; exact hhd b hb
    by_cases e : a / P c = k
    · subst e
      rw [hFa hk] at hT
      refine ⟨l ++ [a], ?_, fun x => ?_⟩
      · rw [hF _ hk, if_pos rfl]
        exact hT.snoc (h := ⟨1, W.length, p, 0, 0⟩) (hS.hdr hW) (show (1 : Int) ≠ 3 by decide)
      · rw [List.mem_append, h2]
        constructor
        · rintro (⟨b, hb, e1, e2⟩ | e1)
          · exact ⟨b, List.mem_append_left _ hb, e1, e2⟩
          · obtain rfl := List.mem_singleton.1 e1
            exact ⟨_, List.mem_append_right _ List.mem_cons_self, rfl, rfl⟩
        · rintro ⟨b, hb, e1, e2⟩
          rcases List.mem_append.1 hb with hb | hb
          · exact .inl ⟨b, hb, e1, e2⟩
          · obtain rfl := List.mem_singleton.1 hb
            exact .inr (List.mem_singleton.2 e1.symm)
    · refine ⟨l, ?_, fun x => ?_⟩
      · rw [hF _ hk, if_neg e]; exact hT
      · rw [h2]
        constructor
        · rintro ⟨b, hb, e1, e2⟩
          exact ⟨b, List.mem_append_left _ hb, e1, e2⟩
        · rintro ⟨b, hb, e1, e2⟩
          rcases List.mem_append.1 hb with hb | hb
          · exact ⟨b, hb, e1, e2⟩
          · obtain rfl := List.mem_singleton.1 hb
            rw [← e1] at e2
            exact absurd e2 e
  · rcases h.hum k hk with h1 | ⟨b, hb, h1⟩
    · rcases hH k hk h1 with h2 | ⟨h2, h3⟩
      · exact .inl h2
      · exact .inr ⟨_, List.mem_append_right _ List.mem_cons_self, h2.symm, h3⟩
    · exact .inr ⟨b, List.mem_append_left _ hb, h1⟩
  · rcases List.mem_append.1 hb with hb | hb
    · exact h.home b hb
    · obtain rfl := List.mem_singleton.1 hb
      exact hn
/-- A word behind an object's header is written. -/
theorem Laid.write (h : Laid c ws rs F E H B) {i : Nat} {b : LObj} (hi : B[i]? = some b) {j : Nat} (v : Int) (hj : 1 ≤ j) (hj2 : j < b.2.length) :
    Laid c (ws.set (b.1.toNat + j) v) rs F E H (B.set i (b.1, b.2.set j v)) := by
  have hl := h.len
  have hb := List.mem_of_getElem? hi
  have hin : i < B.length := (List.getElem?_eq_some_iff.1 hi).1
  obtain ⟨hs, p, hp⟩ := h.objs b hb
  have hwl : b.1.toNat + j < ws.length := by
    have := hs.2 j _ (List.getElem?_eq_getElem hj2)
    exact (List.getElem?_eq_some_iff.1 this).1
  -- the others
  have off : ∀ (k : Nat) (d : LObj), k ≠ i → B[k]? = some d → Off b d := fun k d hk hd => by
    obtain ⟨hkl, ed⟩ := List.getElem?_eq_some_iff.1 hd
    obtain ⟨_, eb⟩ := List.getElem?_eq_some_iff.1 hi
    have hpw := List.pairwise_iff_getElem.1 h.apart
    rcases Nat.lt_or_gt_of_ne hk with q | q
    · have := hpw k i hkl hin q
      rw [ed, eb] at this
      exact this.symm
    · have := hpw i k hin hkl q
      rw [ed, eb] at this
      exact this
  have hseg : ∀ (k : Nat) (d : LObj), k ≠ i → B[k]? = some d → Seg (ws.set (b.1.toNat + j) v) d.1 d.2 := fun k d hk hd => by
    obtain ⟨h1, h2⟩ := (h.objs d (List.mem_of_getElem? hd)).1
    refine ⟨h1, fun m x hx => ?_⟩
    have hm := (List.getElem?_eq_some_iff.1 hx).1
    have ho := off k d hk hd
    unfold Off at ho
    have := hs.1
    rw [List.getElem?_set_ne (by omega)]
    exact h2 m x hx
  have hown : Seg (ws.set (b.1.toNat + j) v) b.1 (b.2.set j v) := ⟨hs.1, fun m x hx => by
    by_cases e : j = m
    · subst e
      rw [List.getElem?_set_self hj2] at hx
      rw [List.getElem?_set_self hwl]; exact hx
    · rw [List.getElem?_set_ne e] at hx
      rw [List.getElem?_set_ne (by omega)]
      exact hs.2 m x hx⟩
  have hW : ObjW (b.2.set j v) p := by
    refine ⟨?_, ?_, ?_⟩
    · rw [List.getElem?_set_ne (by omega), List.length_set]; exact hp.1
    · rw [List.length_set]; exact hp.2.1
    · rw [List.length_set]; exact hp.2.2
  have hhd : ∀ d ∈ B, hdr (ws.set (b.1.toNat + j) v) d.1 = hdr ws d.1 := fun d hd => hdr_congr fun h0 => by
    obtain ⟨k, hk, ek⟩ := List.getElem_of_mem hd
    by_cases e : k = i
    · subst e
      have : d = b := by
        rw [List.getElem?_eq_getElem hk] at hi
        injection hi with hi
        exact ek.symm.trans hi
      subst this
      exact List.getElem?_set_ne (by omega)
    · have ho := off k d e (by rw [List.getElem?_eq_getElem hk, ek])
      unfold Off at ho
      have := hl d hd
      have := hs.1
      exact List.getElem?_set_ne (by omega)
  -- a member of the new list: its place
  have mem : ∀ d' ∈ B.set i (b.1, b.2.set j v), ∃ d ∈ B, d'.1 = d.1 ∧ d'.2.length = d.2.length := fun d' hd => by
    rcases List.mem_or_eq_of_mem_set hd with q | q
    · exact ⟨d', q, rfl, rfl⟩
    · exact ⟨b, hb, by rw [q], by rw [q]; exact List.length_set⟩
  have mem2 : ∀ d ∈ B, ∃ d' ∈ B.set i (b.1, b.2.set j v), d'.1 = d.1 ∧ d'.2.length = d.2.length := fun d hd => by
    obtain ⟨k, hk, ek⟩ := List.getElem_of_mem hd
    by_cases e : k = i
    · subst e
      have : d = b := by
        rw [List.getElem?_eq_getElem hk] at hi
        injection hi with hi
        exact ek.symm.trans hi
      subst this
      exact ⟨_, List.mem_of_getElem? (List.getElem?_set_self hin), rfl, List.length_set⟩
    · refine ⟨d, List.mem_of_getElem? (i := k) ?_, rfl, rfl⟩
      rw [List.getElem?_set_ne (by omega), List.getElem?_eq_getElem hk, ek]
  refine ⟨fun d hd => ?_, ?_, fun d hd x x1 x2 => ?_, fun k hk => ?_, fun k hk => ?_, fun d hd => ?_, h.st⟩
  · obtain ⟨k, hk, ek⟩ := List.getElem_of_mem hd
    have hk' : k < B.length := by simpa using hk
    by_cases e : k = i
    · subst e
      rw [List.getElem_set_self] at ek
      subst ek
      exact ⟨hown, p, hW⟩
    · rw [List.getElem_set_ne (by omega)] at ek
      have hd' : B[k]? = some d := by rw [List.getElem?_eq_getElem hk', ek]
      exact ⟨hseg k d e hd', (h.objs d (List.mem_of_getElem? hd')).2⟩
  · rw [List.pairwise_iff_getElem]
    intro m k hm hk hmk
    have hm' : m < B.length := by simpa using hm
    have hk' : k < B.length := by simpa using hk
    have hq := List.pairwise_iff_getElem.1 h.apart m k hm' hk' hmk
    have gen : ∀ (q : Nat) (hq : q < B.length) (hq' : q < (B.set i (b.1, b.2.set j v)).length), ((B.set i (b.1, b.2.set j v))[q]'hq').1 = (B[q]'hq).1 ∧ ((B.set i (b.1, b.2.set j v))[q]'hq').2.length = (B[q]'hq).2.length := fun q hq hq' => by
      by_cases e : q = i
      · subst e
        have : B[q] = b := by
          rw [List.getElem?_eq_getElem hq] at hi
          injection hi
        rw [List.getElem_set_self, this]
        exact ⟨rfl, List.length_set⟩
      · rw [List.getElem_set_ne (by omega)]
        exact ⟨rfl, rfl⟩
    unfold Off at hq ⊢
    rw [(gen m hm' hm).1, (gen m hm' hm).2, (gen k hk' hk).1, (gen k hk' hk).2]
    exact hq
  · obtain ⟨d0, hd0, e1, e2⟩ := mem d hd
    rw [e1] at x1 x2
    rw [e2] at x2
    exact h.occ d0 hd0 x x1 x2
  · obtain ⟨l, h1, h2⟩ := h.plain k hk
    refine ⟨l, h1.congr fun x hx => ?_, fun a => ?_⟩
    · obtain ⟨d, hd, e, _⟩ := (h2 x).1 hx
      rw [← e]; exact hhd d hd
    · rw [h2]
      constructor
      · rintro ⟨d, hd, e1, e2⟩
        obtain ⟨d', hd', e3, _⟩ := mem2 d hd
        exact ⟨d', hd', by rw [e3]; exact e1, e2⟩
      · rintro ⟨d', hd', e1, e2⟩
        obtain ⟨d, hd, e3, _⟩ := mem d' hd'
        exact ⟨d, hd, by rw [← e3]; exact e1, e2⟩
  · rcases h.hum k hk with h1 | ⟨d, hd, h1, h2⟩
    · exact .inl h1
    · obtain ⟨d', hd', e3, e4⟩ := mem2 d hd
      exact .inr ⟨d', hd', by rw [e3]; exact h1, by rw [e4]; exact h2⟩
  · obtain ⟨d0, hd0, e1, _⟩ := mem d hd
    rw [e1]
    exact h.home d0 hd0
end
/-! What is read of it. -/
section
variable {c : Cfg} {s : HS} {E : Int → Int} {B : List LObj}
theorem Laid.row (hp : 1 ≤ P c) (h : Laid c s.ws s.rs (endS c s) E (fun _ => False) B) (k : Int) : ∃ l, rowS c s k = some l ∧ ∀ a, a ∈ l ↔ ∃ b ∈ B, b.1 = a ∧ a / P c = k := by
  have nobody : (stS s.rs k = 0 ∨ stS s.rs k = 5) → ∀ b ∈ B, b.1 / P c ≠ k := fun q b hb e => by
    rcases h.home b hb with h1 | ⟨h1, _⟩
    · rw [e] at h1
      obtain ⟨h1, h2⟩ := h1
      omega
    · rw [e] at h1; omega
  unfold rowS
  by_cases q : stS s.rs k = 0 ∨ stS s.rs k = 5
  · rw [if_pos q]
    refine ⟨[], rfl, fun a => ⟨fun e => (by cases e), ?_⟩⟩
    rintro ⟨b, hb, e1, e2⟩
    rw [← e1] at e2
    exact absurd e2 (nobody q b hb)
  rw [if_neg q]
  by_cases q4 : stS s.rs k = 4
  · rw [if_pos q4]
    rcases h.hum k q4 with h1 | ⟨b, hb, h1, h2⟩
    · exact h1.elim
    · obtain ⟨hs, p, hw⟩ := h.objs b hb
      have hh := hs.hdr hw
      rw [h1] at hh
      rw [hh]
      dsimp only
      rw [if_pos ⟨rfl, wholeB_iff.2 h2⟩]
      refine ⟨_, rfl, fun a => ?_⟩
      rw [List.mem_singleton]
      constructor
      · rintro rfl
        exact ⟨b, hb, h1, Int.mul_ediv_cancel _ (by omega)⟩
      · rintro ⟨d, hd, e1, e2⟩
        rcases h.home d hd with h3 | ⟨_, h3⟩
        · rw [e1, e2, q4] at h3
          exact absurd h3.2 (by decide)
        · rw [e1, e2] at h3
          exact h3
  · rw [if_neg q4]
    have hpl : plainP (stS s.rs k) := by
      rcases h.st k with h1 | h1 | h1 | h1
      · exact absurd (.inl h1) q
      · exact absurd (.inr h1) q
      · exact absurd h1 q4
      · exact h1
    obtain ⟨l, h1, h2⟩ := h.plain k hpl
    exact ⟨l, (starts_iff h1.le).2 h1, h2⟩
theorem rowObs_iff {ws l : List Int} {o : Ob} : o ∈ rowObs ws l ↔ ∃ a ∈ l, ∃ hd, hdr ws a = some hd ∧ hd.kind = 1 ∧ o = obOf ws a hd := by
  unfold rowObs
  rw [List.mem_filterMap]
  constructor
  · rintro ⟨a, ha, e⟩
    refine ⟨a, ha, ?_⟩
    cases hh : hdr ws a with
    | none => rw [hh] at e; cases e
    | some hd =>
      rw [hh] at e
      dsimp only at e
      split at e
      · rename_i hk
        injection e with e
        exact ⟨hd, rfl, hk, e.symm⟩
      · cases e
  · rintro ⟨a, ha, hd, h1, h2, h3⟩
    refine ⟨a, ha, ?_⟩
    rw [h1]
    dsimp only
    rw [if_pos h2, h3]
theorem Laid.objsF (hp : 1 ≤ P c) (h : Laid c s.ws s.rs (endS c s) E (fun _ => False) B) : ∀ n : Nat, ∃ L, objsF c s n = some L ∧ ∀ o, o ∈ L ↔ ∃ b ∈ B, b.1 / P c < n ∧ o = obB b := by
  intro n
  induction n with
  | zero =>
    refine ⟨[], rfl, fun o => ⟨fun e => (by cases e), ?_⟩⟩
    rintro ⟨b, hb, h1, _⟩
    have := (h.len b hb).1
    have : 0 ≤ b.1 / P c := Int.ediv_nonneg this (by omega)
    omega
  | succ n ih =>
    obtain ⟨L, e1, h1⟩ := ih
    obtain ⟨l, e2, h2⟩ := h.row hp n
    refine ⟨L ++ rowObs s.ws l, ?_, fun o => ?_⟩
    · unfold Go.Proofs.YtdhbpklmkibmbaaGreat.objsF
      rw [e1, e2]
    · rw [List.mem_append, h1, rowObs_iff]
      constructor
      · rintro (⟨b, hb, q1, q2⟩ | ⟨a, ha, hd, q1, q2, q3⟩)
        · exact ⟨b, hb, by omega, q2⟩
        · obtain ⟨b, hb, e3, e4⟩ := (h2 a).1 ha
          subst e3
          obtain ⟨hs, p, hw⟩ := h.objs b hb
          rw [hs.hdr hw] at q1
          injection q1 with q1
          subst q1
          exact ⟨b, hb, by omega, q3.trans (hs.obOf hw)⟩
      · rintro ⟨b, hb, q1, q2⟩
        by_cases q : b.1 / P c < n
        · exact .inl ⟨b, hb, q, q2⟩
        · obtain ⟨hs, p, hw⟩ := h.objs b hb
          exact .inr ⟨b.1, (h2 _).2 ⟨b, hb, rfl, by omega⟩, _, hs.hdr hw, rfl, q2.trans (hs.obOf hw).symm⟩
theorem rget_of_st {rs : List R} {i : Int} (h : stS rs i ≠ 0) : 0 ≤ i ∧ i < (rs.length : Int) := by
  unfold stS at h
  split at h
  · rename_i x hx
    have := rget_some hx
    omega
  · exact absurd rfl h
theorem Laid.objs_all (hp : 1 ≤ P c) (h : Laid c s.ws s.rs (endS c s) E (fun _ => False) B) (hl : (s.rs.length : Int) = c.c1) : ∃ L, objsS c s = some L ∧ ∀ o, o ∈ L ↔ ∃ b ∈ B, o = obB b := by
  obtain ⟨L, e, h1⟩ := h.objsF hp c.c1.toNat
  refine ⟨L, e, fun o => ?_⟩
  rw [h1]
  constructor
  · rintro ⟨b, hb, _, q⟩; exact ⟨b, hb, q⟩
  · rintro ⟨b, hb, q⟩
    refine ⟨b, hb, ?_, q⟩
    have hst : stS s.rs (b.1 / P c) ≠ 0 := by
      rcases h.home b hb with ⟨h2, _⟩ | ⟨h2, _⟩
      · omega
      · rw [h2]; decide
    have := rget_of_st hst
    omega
/-- Is each reference nil, or an object's? -/
def KnownL (B : List LObj) (l : List Int) : Prop := ∀ r ∈ l, r = 0 ∨ ∃ d ∈ B, r = d.1 + 1
theorem known_iff {L : List Ob} (h : ∀ o, o ∈ L ↔ ∃ b ∈ B, o = obB b) (l : List Int) : knownB L l = true ↔ KnownL B l := by
  rw [knownB_iff]
  unfold KnownL
  refine forall_congr' fun r => forall_congr' fun _ => or_congr_right ?_
  unfold Ks
  rw [List.mem_map]
  constructor
  · rintro ⟨o, ho, e⟩
    obtain ⟨b, hb, q⟩ := (h o).1 ho
    exact ⟨b, hb, by rw [← e, q]; rfl⟩
  · rintro ⟨b, hb, e⟩
    exact ⟨obB b, (h _).2 ⟨b, hb, rfl⟩, by rw [e]; rfl⟩
theorem Laid.okS (hp : 1 ≤ P c) (h : Laid c s.ws s.rs (endS c s) E (fun _ => False) B) (hl : (s.rs.length : Int) = c.c1) (h1 : ∀ b ∈ B, KnownL B (obB b).refs) (h2 : ∀ l ∈ s.refs, KnownL B l) :
    ∃ L, okS c s = some L ∧ ∀ o, o ∈ L ↔ ∃ b ∈ B, o = obB b := by
  obtain ⟨L, e, hL⟩ := h.objs_all hp hl
  refine ⟨L, ?_, hL⟩
  unfold Go.Proofs.YtdhbpklmkibmbaaGreat.okS
  rw [e]
  dsimp only
  rw [if_pos]
  refine ⟨fun o ho => ?_, fun l q => (known_iff hL l).2 (h2 l q)⟩
  obtain ⟨b, hb, q⟩ := (hL o).1 ho
  rw [q]
  exact (known_iff hL _).2 (h1 b hb)
theorem Laid.bad (hp : 1 ≤ P c) (h : Laid c s.ws s.rs (endS c s) E (fun _ => False) B) (hl : (s.rs.length : Int) = c.c1) {b : LObj} (hb : b ∈ B) (h1 : ¬ KnownL B (obB b).refs) : Go.Proofs.YtdhbpklmkibmbaaGreat.okS c s = none := by
  obtain ⟨L, e, hL⟩ := h.objs_all hp hl
  unfold Go.Proofs.YtdhbpklmkibmbaaGreat.okS
  rw [e]
  dsimp only
  rw [if_neg]
  rintro ⟨q, _⟩
  exact h1 ((known_iff hL _).1 (q _ ((hL _).2 ⟨b, hb, rfl⟩)))
end
end Go.Proofs.YtdhbpklmkibmbaaGreat
/- Words for a thing, in plain Lean. -/
namespace Go.Proofs.YtdhbpklmkibmbaaGreat
open Go.Vc

theorem stS_get {rs : List R} {k : Int} {x : R} (h0 : 0 ≤ k) (h : rs[k.toNat]? = some x) : stS rs k = x.1 := by
  unfold stS rget
  rw [if_pos h0, h]
theorem topS_get {P : Int} {rs : List R} {k : Int} {x : R} (h0 : 0 ≤ k) (h : rs[k.toNat]? = some x) : topS P rs k = k * P + x.2.1 := by
  unfold topS rget
  rw [if_pos h0, h]
theorem st_some {rs : List R} {k : Int} (h : stS rs k ≠ 0) : ∃ x, 0 ≤ k ∧ rs[k.toNat]? = some x ∧ stS rs k = x.1 := by
  unfold stS at h ⊢
  cases e : rget rs k with
  | none => rw [e] at h; exact absurd rfl h
  | some x => exact ⟨x, (rget_some e).1, (rget_some e).2.2, rfl⟩
theorem rget_set {rs : List R} {k : Nat} {y : R} (hk : k < rs.length) (i : Int) : rget (rs.set k y) i = if i = k then some y else rget rs i := by
  unfold rget
  by_cases h0 : 0 ≤ i
  · rw [if_pos h0, if_pos h0]
    by_cases e : i = k
    · subst e
      rw [if_pos rfl, show ((k : Int)).toNat = k by omega, List.getElem?_set_self hk]
    · rw [if_neg e, List.getElem?_set_ne (by omega)]
  · rw [if_neg h0, if_neg h0, if_neg (by omega)]
theorem stS_set {rs : List R} {k : Nat} {y : R} (hk : k < rs.length) (i : Int) : stS (rs.set k y) i = if i = k then y.1 else stS rs i := by
  unfold stS
  rw [rget_set hk]
  by_cases e : i = k
  · rw [if_pos e, if_pos e]
  · rw [if_neg e, if_neg e]
theorem topS_set {P : Int} {rs : List R} {k : Nat} {y : R} (hk : k < rs.length) (i : Int) : topS P (rs.set k y) i = if i = k then i * P + y.2.1 else topS P rs i := by
  unfold topS
  rw [rget_set hk]
  by_cases e : i = k
  · rw [if_pos e, if_pos e]
  · rw [if_neg e, if_neg e]
theorem div_in {x k P : Int} (hP : 1 ≤ P) (h1 : k * P ≤ x) (h2 : x < k * P + P) : x / P = k := by
  have a1 : k ≤ x / P := (Int.le_ediv_iff_mul_le (by omega)).2 h1
  have a2 : x / P < k + 1 := (Int.ediv_lt_iff_lt_mul (by omega)).2 (by rw [Int.add_mul, Int.one_mul]; omega)
  omega
theorem div_bd (x : Int) {P : Int} (hP : 1 ≤ P) : x / P * P ≤ x ∧ x < x / P * P + P := by
  have h1 := Int.ediv_mul_le x (show P ≠ 0 by omega)
  have h2 := Int.lt_ediv_add_one_mul_self x (show 0 < P by omega)
  rw [Int.add_mul, Int.one_mul] at h2
  exact ⟨h1, h2⟩
/-- Words were found for a thing: where, and what the tables then are. -/
inductive Room (c : Cfg) (st n : Int) (op : List Int) (rs : List R) : Int → List Int → List R → Prop
  | big (k : Int) (rs' : List R) : st = 4 → freeAt rs k (spanC c n) → held (P c) k n rs rs' → Room c st n op rs (k * P c) op rs'
  | bump (r : Int) (x : R) : plainP st → op[st.toNat]? = some r → 0 ≤ r → rs[r.toNat]? = some x → plainP x.1 → n ≤ P c - x.2.1 → Room c st n op rs (r * P c + x.2.1) op (rs.set r.toNat (x.1, x.2.1 + n, x.2.2))
  | claim (k : Nat) (x : R) : plainP st → rs[k]? = some x → x.1 = 0 → n ≤ P c - x.2.1 → Room c st n op rs (k * P c + x.2.1) (op.set st.toNat k) (rs.set k (st, x.2.1 + n, x.2.2))
/-- What holds while a plan is built. -/
structure BInv (c : Cfg) (ws : List Int) (rs : List R) (B : List LObj) (op : List Int) : Prop where
  laid : Laid c ws rs (topS (P c) rs) (topS (P c) rs) (fun _ => False) B
  zero : ∀ x ∈ rs, x.1 = 0 → x.2.1 = 0
  opl : op.length = 4
  op : ∀ st : Int, plainP st → ∀ r, op[st.toNat]? = some r → 0 ≤ r → stS rs r = st
theorem zeros7_mem {n : Nat} {x : R} (h : x ∈ zeros7 n) : x = (0, 0, 0) := (List.mem_replicate.1 h).2
theorem stS_new (c : Cfg) (k : Int) : stS (zeros7 c.c1.toNat) k = 0 := by
  apply Classical.byContradiction
  intro h
  obtain ⟨x, _, h1, h2⟩ := st_some h
  rw [zeros7_mem (List.mem_of_getElem? h1)] at h2
  exact h h2
theorem BInv.new (c : Cfg) (ws : List Int) : BInv c ws (zeros7 c.c1.toNat) [] [-1, -1, -1, -1] where
  laid := {
    objs := fun b hb => by cases hb
    apart := List.Pairwise.nil
    occ := fun b hb => by cases hb
    plain := fun k hk => by rw [stS_new] at hk; exact absurd hk.1 (by decide)
    hum := fun k hk => by rw [stS_new] at hk; exact absurd hk (by decide)
    home := fun b hb => by cases hb
    st := fun k => .inl (stS_new c k) }
  zero := fun x hx _ => by rw [zeros7_mem hx]
  opl := rfl
  op := fun st hs r hr h0 => by
    have : r = -1 := by
      have := List.mem_of_getElem? hr
      simpa using this
    omega
theorem BInv.unused {c : Cfg} {ws : List Int} {rs : List R} {B : List LObj} {op : List Int} (h : BInv c ws rs B op) {k : Nat} {x : R} (hx : rs[k]? = some x) (e : x.1 = 0) : x.2.1 = 0 := h.zero x (List.mem_of_getElem? hx) e
/-- A thing of a plan gets its words. -/
theorem Room.make {c : Cfg} {st n a : Int} {op op' : List Int} {rs rs' : List R} {ws : List Int} {B : List LObj} (R : Room c st n op rs a op' rs') (hV : Valid c) (hB : BInv c ws rs B op) (hl : (rs.length : Int) = c.c1) (us : ∀ x ∈ rs, 0 ≤ x.2.1 ∧ x.2.1 ≤ P c) (hn : 1 ≤ n) (_hn2 : n ≤ 1048576) :
    (0 ≤ a ∧ a + n ≤ c.c1 * P c) ∧ (∀ (ws' W : List Int) (p : Nat), (W.length : Int) = n → Seg ws' a W → ObjW W p → (∀ x : Int, 0 ≤ x → (x < a ∨ a + n ≤ x) → ws'[x.toNat]? = ws[x.toNat]?) → BInv c ws' rs' (B ++ [(a, W)]) op') := by
  have hP := P_le hV
  have hL := hB.laid
  cases R with
  | big k rs' h1 h2 h3 =>
    obtain ⟨g0, g1, g2⟩ := h2
    obtain ⟨l1, l2⟩ := h3
    have hsp : spanC c n = (n - 1) / P c + 1 := by unfold spanC; rw [if_neg (by omega)]
    have q0 : 0 ≤ (n - 1) / P c := Int.ediv_nonneg (by omega) (by omega)
    -- regions of the run
    have run : ∀ j : Int, k ≤ j → ((j - k) * P c < n ↔ j < k + spanC c n) := fun j hj => by
      rw [hsp, show (j - k) * P c < n ↔ (j - k) * P c ≤ n - 1 from by omega, ← Int.le_ediv_iff_mul_le (by omega)]; omega
    have st0 : ∀ j : Int, k ≤ j → j < k + spanC c n → stS rs j = 0 := fun j j1 j2 => by
      apply Classical.byContradiction
      intro h
      obtain ⟨x, h0, hx, e⟩ := st_some h
      rw [e] at h
      exact h (g2 j.toNat x (by omega) (by omega) hx)
    have st1 : ∀ j : Int, stS rs' j = if k ≤ j ∧ j < k + spanC c n then (if j = k then 4 else 5) else stS rs j := fun j => by
      by_cases h0 : 0 ≤ j ∧ j < (rs.length : Int)
      · obtain ⟨x, hx⟩ : ∃ x, rs[j.toNat]? = some x := ⟨_, List.getElem?_eq_getElem (by omega)⟩
        have hh := l2 j.toNat x hx
        rw [show ((j.toNat : Nat) : Int) = j by omega] at hh
        rw [stS_get h0.1 hh, stS_get h0.1 hx]
        by_cases q : k ≤ j ∧ j < k + spanC c n
        · rw [if_pos ⟨q.1, (run j q.1).2 q.2⟩, if_pos q]
        · rw [if_neg (fun e => q ⟨e.1, (run j e.1).1 e.2⟩), if_neg q]
      · have e1 : stS rs' j = 0 := by
          apply Classical.byContradiction
          intro h
          obtain ⟨x, h0', hx, e⟩ := st_some h
          have := (List.getElem?_eq_some_iff.1 hx).1
          omega
        have e2 : stS rs j = 0 := by
          apply Classical.byContradiction
          intro h
          obtain ⟨x, h0', hx, e⟩ := st_some h
          have := (List.getElem?_eq_some_iff.1 hx).1
          omega
        rw [e1, e2, if_neg (by omega)]
    have top1 : ∀ j : Int, plainP (stS rs' j) → topS (P c) rs' j = topS (P c) rs j := fun j hj => by
      rw [st1] at hj
      by_cases q : k ≤ j ∧ j < k + spanC c n
      · rw [if_pos q] at hj
        obtain ⟨h1, h2⟩ := hj
        split at h2 <;> omega
      · rw [if_neg q] at hj
        obtain ⟨x, h0, hx, e⟩ := st_some (rs := rs) (k := j) (fun e => by rw [e] at hj; exact absurd hj.1 (by decide))
        have hh := l2 j.toNat x hx
        rw [show ((j.toNat : Nat) : Int) = j by omega, if_neg (fun e => q ⟨e.1, (run j e.1).1 e.2⟩)] at hh
        rw [topS_get h0 hh, topS_get h0 hx]
    have div : ∀ x : Int, k * P c ≤ x → x < k * P c + n → k ≤ x / P c ∧ x / P c < k + spanC c n := fun x x1 x2 => by
      have h1 : k ≤ x / P c := (Int.le_ediv_iff_mul_le (by omega)).2 x1
      refine ⟨h1, (run _ h1).1 ?_⟩
      have := (div_bd x (P := P c) (by omega)).1
      rw [Int.sub_mul]; omega
    have bound : 0 ≤ k * P c ∧ k * P c + n ≤ c.c1 * P c := by
      have b1 : 0 ≤ k * P c := Int.mul_nonneg g0 (by omega)
      have b2 : (k + spanC c n) * P c ≤ c.c1 * P c := Int.mul_le_mul_of_nonneg_right (by omega) (by omega)
      have b3 := (div_bd (n - 1) (P := P c) (by omega)).2
      rw [Int.add_mul, hsp, Int.add_mul, Int.one_mul] at b2
      omega
    refine ⟨bound, fun ws' W p hW1 hS hW hag => ⟨?_, fun x hx e => ?_, hB.opl, fun s hs r hr h0 => ?_⟩⟩
    · have hT : Laid c ws rs' (topS (P c) rs) (topS (P c) rs') (fun j => j = k) B := hL.take
        (fun j hj => by
          rw [st1, if_neg (fun e => hj (st0 j e.1 e.2))])
        (fun j hj => by
          have h4 : plainP (stS rs' j) := by rw [st1, if_neg (fun e => by rw [st0 j e.1 e.2] at hj; exact absurd hj.1 (by decide))]; exact hj
          rw [top1 j h4]; exact Int.le_refl _)
        (fun j hj => by
          refine .inl ⟨?_, rfl⟩
          rw [st1] at hj
          split at hj
          · obtain ⟨h1, h2⟩ := hj
            split at h2 <;> omega
          · exact hj)
        (fun j hj => by
          rw [st1] at hj
          split at hj
          · split at hj
            · exact .inr ‹_›
            · omega
          · exact .inl ⟨hj, fun e => e.elim⟩)
        (fun j => by
          rw [st1]
          split
          · split
            · exact .inr (.inr (.inl rfl))
            · exact .inr (.inl rfl)
          · exact hL.st j)
      have ek : k * P c / P c = k := Int.mul_ediv_cancel _ (by omega)
      refine hT.make hS hW ?_ (by rw [hW1]; exact hag) ?_ ?_ (fun j hj => ?_) (fun hj => ?_) (fun j hj e => ?_)
      · rw [hW1]
        exact hL.fresh hn fun x x1 x2 => .inl (st0 _ (div x x1 x2).1 (div x x1 x2).2)
      · intro x x1 x2
        rw [hW1] at x2
        rw [st1, if_pos (div x x1 x2)]
        split
        · exact ⟨by decide, fun q => absurd q.2 (by decide)⟩
        · exact ⟨by decide, fun q => absurd q.2 (by decide)⟩
      · rw [ek]
        exact .inr ⟨by rw [st1, if_pos ⟨Int.le_refl _, by omega⟩, if_pos rfl], rfl⟩
      · rw [ek, if_neg]
        · exact top1 j hj
        · rintro rfl
          rw [st1, if_pos ⟨Int.le_refl _, by omega⟩, if_pos rfl] at hj
          exact absurd hj.2 (by decide)
      · rw [ek, st1, if_pos ⟨Int.le_refl _, by omega⟩, if_pos rfl] at hj
        exact absurd hj.2 (by decide)
      · subst e
        refine .inr ⟨rfl, ?_, ?_, ?_⟩
        · intro i i1 i2
          rw [hW1] at i2
          rw [st1, if_pos ⟨by omega, i2⟩, if_neg (by omega)]
        · rw [hW1]; omega
        · rw [hW1]; omega
    · obtain ⟨i, hi, ei⟩ := List.getElem_of_mem hx
      have hi' : i < rs.length := by omega
      have hh := l2 i _ (List.getElem?_eq_getElem hi')
      rw [List.getElem?_eq_getElem hi, ei] at hh
      injection hh with hh
      split at hh
      · rw [hh] at e
        dsimp only at e
        split at e <;> omega
      · rw [hh] at e ⊢
        exact hB.zero _ (List.getElem_mem hi') e
    · have := hB.op s hs r hr h0
      rw [st1]
      split
      · rename_i q
        rw [st0 r q.1 q.2] at this
        have := hs.1
        omega
      · exact this
  | bump r x h1 h2 h3 h4 h5 h6 =>
    have hk : r.toNat < rs.length := (List.getElem?_eq_some_iff.1 h4).1
    have er : ((r.toNat : Nat) : Int) = r := by omega
    have hx := us x (List.mem_of_getElem? h4)
    have hm : 0 ≤ r * P c ∧ r * P c + P c ≤ c.c1 * P c := row_mul hV h3 (by omega)
    have hst : ∀ j, stS (rs.set r.toNat (x.1, x.2.1 + n, x.2.2)) j = stS rs j := fun j => by
      rw [stS_set hk, er]
      by_cases e : j = r
      · subst e
        rw [if_pos rfl, stS_get h3 h4]
      · rw [if_neg e]
    have htop : ∀ j, topS (P c) (rs.set r.toNat (x.1, x.2.1 + n, x.2.2)) j = if j = r then j * P c + (x.2.1 + n) else topS (P c) rs j := fun j => by
      rw [topS_set hk, er]
    have hr : stS rs r = x.1 := stS_get h3 h4
    have hdiv : ∀ y : Int, r * P c + x.2.1 ≤ y → y < r * P c + x.2.1 + n → y / P c = r := fun y y1 y2 => div_in (by omega) (by omega) (by omega)
    refine ⟨⟨by omega, by omega⟩, fun ws' W p hW1 hS hW hag => ⟨?_, fun y hy e => ?_, hB.opl, fun s hs q hq h0 => ?_⟩⟩
    · have hT : Laid c ws (rs.set r.toNat (x.1, x.2.1 + n, x.2.2)) (topS (P c) rs) (topS (P c) (rs.set r.toNat (x.1, x.2.1 + n, x.2.2))) (fun _ => False) B := hL.take
        (fun j _ => hst j)
        (fun j _ => by
          rw [htop]
          split
          · subst j
            rw [topS_get h3 h4]; omega
          · exact Int.le_refl _)
        (fun j hj => .inl ⟨by rw [← hst]; exact hj, rfl⟩)
        (fun j hj => .inl ⟨by rw [← hst]; exact hj, id⟩)
        (fun j => by rw [hst]; exact hL.st j)
      have ea : (r * P c + x.2.1) / P c = r := hdiv _ (Int.le_refl _) (by omega)
      refine hT.make hS hW ?_ (by rw [hW1]; exact hag) ?_ ?_ (fun j hj => ?_) (fun hj => ?_) (fun j hj e => e.elim)
      · rw [hW1]
        refine hL.fresh hn fun y y1 y2 => .inr ?_
        rw [hdiv y y1 y2, hr, topS_get h3 h4]
        exact ⟨h5, y1⟩
      · intro y y1 y2
        rw [hW1] at y2
        rw [hdiv y y1 y2, hst, hr, htop, if_pos rfl]
        exact ⟨fun e => by rw [e] at h5; exact absurd h5.1 (by decide), fun _ => by omega⟩
      · rw [ea, hst, hr]; exact .inl h5
      · rw [ea, htop, hW1]
        by_cases e : j = r
        · subst e; rw [if_pos rfl, if_pos rfl]; omega
        · rw [if_neg e, if_neg (fun q => e q.symm)]
      · rw [ea, topS_get h3 h4]
    · rcases List.mem_or_eq_of_mem_set hy with q | q
      · exact hB.zero y q e
      · rw [q] at e
        dsimp only at e
        rw [e] at h5
        exact absurd h5.1 (by decide)
    · rw [hst]; exact hB.op s hs q hq h0
  | claim k x h1 h2 h3 h4 =>
    have hk : k < rs.length := (List.getElem?_eq_some_iff.1 h2).1
    have h2' : rs[((k : Int)).toNat]? = some x := by rw [show ((k : Int)).toNat = k by omega]; exact h2
    have hu : x.2.1 = 0 := hB.unused h2 h3
    have hm : 0 ≤ (k : Int) * P c ∧ (k : Int) * P c + P c ≤ c.c1 * P c := row_mul hV (by omega) (by omega)
    have hr : stS rs k = 0 := by rw [stS_get (by omega) h2', h3]
    have hst : ∀ j : Int, stS (rs.set k (st, x.2.1 + n, x.2.2)) j = if j = k then st else stS rs j := fun j => stS_set hk j
    have htop : ∀ j : Int, topS (P c) (rs.set k (st, x.2.1 + n, x.2.2)) j = if j = k then j * P c + (x.2.1 + n) else topS (P c) rs j := fun j => topS_set hk j
    have hdiv : ∀ y : Int, k * P c + x.2.1 ≤ y → y < k * P c + x.2.1 + n → y / P c = k := fun y y1 y2 => div_in (by omega) (by omega) (by omega)
    refine ⟨⟨by omega, by omega⟩, fun ws' W p hW1 hS hW hag => ⟨?_, fun y hy e => ?_, by rw [List.length_set]; exact hB.opl, fun s hs q hq h0 => ?_⟩⟩
    · have hT : Laid c ws (rs.set k (st, x.2.1 + n, x.2.2)) (topS (P c) rs) (topS (P c) (rs.set k (st, x.2.1 + n, x.2.2))) (fun _ => False) B := hL.take
        (fun j hj => by
          rw [hst, if_neg]
          rintro rfl
          exact hj hr)
        (fun j hj => by
          rw [htop, if_neg]
          · exact Int.le_refl _
          · rintro rfl
            rw [hr] at hj
            exact absurd hj.1 (by decide))
        (fun j hj => by
          rw [hst] at hj
          by_cases e : j = k
          · subst e
            exact .inr ⟨hr, by rw [topS_get (by omega) h2', hu]; omega⟩
          · rw [if_neg e] at hj
            exact .inl ⟨hj, rfl⟩)
        (fun j hj => by
          rw [hst] at hj
          by_cases e : j = k
          · subst e
            rw [if_pos rfl] at hj
            rw [hj] at h1
            exact absurd h1.2 (by decide)
          · rw [if_neg e] at hj
            exact .inl ⟨hj, id⟩)
        (fun j => by
          rw [hst]
          split
          · exact .inr (.inr (.inr h1))
          · exact hL.st j)
      have ea : (k * P c + x.2.1) / P c = k := hdiv _ (Int.le_refl _) (by omega)
      refine hT.make hS hW ?_ (by rw [hW1]; exact hag) ?_ ?_ (fun j hj => ?_) (fun hj => ?_) (fun j hj e => e.elim)
      · rw [hW1]
        refine hL.fresh hn fun y y1 y2 => .inl ?_
        rw [hdiv y y1 y2, hr]
      · intro y y1 y2
        rw [hW1] at y2
        rw [hdiv y y1 y2, hst, if_pos rfl, htop, if_pos rfl]
        exact ⟨fun e => by rw [e] at h1; exact absurd h1.1 (by decide), fun _ => by omega⟩
      · rw [ea, hst, if_pos rfl]; exact .inl h1
      · rw [ea, htop, hW1]
        by_cases e : j = k
        · subst e; rw [if_pos rfl, if_pos rfl]; omega
        · rw [if_neg e, if_neg (fun q => e q.symm)]
      · rw [ea, topS_get (by omega) h2']
    · rcases List.mem_or_eq_of_mem_set hy with q | q
      · exact hB.zero y q e
      · rw [q] at e
        dsimp only at e
        rw [e] at h1
        exact absurd h1.1 (by decide)
    · rw [hst]
      by_cases es : s.toNat = st.toNat
      · rw [es, List.getElem?_set_self (by have := hB.opl; have := h1.1; have := h1.2; omega)] at hq
        injection hq with hq
        subst hq
        rw [if_pos rfl]
        have := hs.1; have := h1.1
        omega
      · rw [List.getElem?_set_ne (fun e => es e.symm)] at hq
        have := hB.op s hs q hq h0
        rw [if_neg]
        · exact this
        · rintro rfl
          rw [hr] at this
          have := hs.1
          omega
end Go.Proofs.YtdhbpklmkibmbaaGreat
