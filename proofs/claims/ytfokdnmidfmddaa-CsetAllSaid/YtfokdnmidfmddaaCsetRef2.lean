/- Layer 18 (cset): the document's answer: ref, Next, Choose. -/
import Derived.Test.YtfokdnmidfmddaaCsetRef
import Derived.Test.YtfokdnmidfmddaaCsetLaw3
namespace Go.Proofs.Ytfokdnmidfmddaa
open Go.Vc Go.Sort

def OwnR (w : World) (base : Nat) (v : Value) (l : List (Int × Int)) : Prop := w.ownsRow base t_gleanerref18_Candidate 2 v l.length (candsL l)
theorem OwnR.cands {w : World} {base : Nat} {v : Value} {l : List (Int × Int)} (h : OwnR w base v l) : Cands w v l := by
  rcases own_cases h with ⟨rfl, h0, h1⟩ | ⟨g, cap, cur, hv, hb, hblk, ht, hn⟩
  · have : l = [] := List.eq_nil_of_length_eq_zero h0
    subst this
    exact ⟨none, 0, rfl, fun _ => rfl, fun x e => by cases e⟩
  · refine ⟨some ⟨g, 0, none⟩, cap, hv, (fun e => by cases e), fun x e i z hi => ?_⟩
    injection e with e
    subst e
    have := candsL_get hi
    rw [← ht, List.getElem?_take, List.getElem?_take] at this
    have hil := (List.getElem?_eq_some_iff.1 hi).1
    rw [if_pos (by omega), if_pos (by omega)] at this
    rw [add_of, add_of, Nat.zero_add, Nat.zero_add]
    exact ⟨hblk.cell this.1, hblk.cell this.2⟩
theorem ref18_spec (v : Value) (l : List (Int × Int)) (w : World) (h : Cands w v l) (hl : l.length ≤ 300) :
    CallC Pr f_gleanerlaw18_ref [v] w (fun r w' => OwnR w' w.heap.size r l ∧ Fr No w w') := by
  obtain ⟨a, c, ev, _⟩ := id h
  subst ev
  refine call_sound T_ok fun_gleanerlaw18_ref rfl (by kernel_rfl) rfl (Kp ?_)
  refine LoopC_intro (α := Int × Value) (fun q => [(0, .slice a l.length c), (3, q.2), (4, .int .i64 q.1)])
    (fun m q w2 => Fr No w w2 ∧ 0 ≤ q.1 ∧ q.1 ≤ l.length ∧ OwnR w2 w.heap.size q.2 (l.take q.1.toNat) ∧ m = (l.length - q.1).toNat)
    l.length (0, .slice none 0 0) ⟨rfl, rfl, rfl, trivial⟩ ⟨Fr.refl _ _, Int.le_refl _, by show (0 : Int) ≤ _; omega, World.ownsRow_nil _ _ _ _, by show _ = ((l.length : Int) - 0).toNat; omega⟩ (fun m q w2 hJ => Kp ?_)
  obtain ⟨f2, i0, i1, own, hm⟩ := hJ
  obtain ⟨i, vo⟩ := q
  have i0 : 0 ≤ i := i0
  have i1 : i ≤ l.length := i1
  have own : OwnR w2 w.heap.size vo (l.take i.toNat) := own
  refine Br_dec (fun g0 => ?_) (fun g0 => ?_)
  · have g0 : i < (l.length : Int) := g0
    have hi : i.toNat < l.length := by omega
    obtain ⟨x, rfl, hx⟩ := (h.keep f2 (fun _ _ => id)).cell rfl hi
    refine Sd_intro (show 0 ≤ i ∧ i < (l.length : Int) by omega) ?_
    refine LdN_cells (vs := candL l[i.toNat]) hx rfl ?_
    refine NewC_blk (fun p w3 hp h3 f3 s3 => ?_)
    have h3 : Blk w3 p t_gleanerref18_Candidate (candL l[i.toNat]) := h3
    have hlen : (l.take i.toNat).length ≤ 300 := by rw [List.length_take]; omega
    have own3 : w3.ownsRow w.heap.size t_gleanerref18_Candidate 2 vo (l.take i.toNat).length (candsL (l.take i.toNat)) := own_keep own f3 (fun _ _ => id)
    have s2 := f2.size
    refine ApL T_ok (base := w.heap.size) (xs := candsL (l.take i.toNat)) (news := candL l[i.toNat]) rfl rfl rfl (by decide) own3 (by omega) h3 rfl rfl rfl (by omega) (show ((l.take i.toNat).length + 1) * 16 ≤ _ by omega) (fun v' w4 own4 f4 loc => ?_)
    have er : l.take (i + 1).toNat = l.take i.toNat ++ [l[i.toNat]] := by
      rw [show (i + 1).toNat = i.toNat + 1 by omega, List.take_add_one, List.getElem?_eq_getElem hi]; rfl
    refine ⟨(l.length - (i + 1)).toNat, _, by omega, ?_, (i + 1, v'), rfl, (f2.no f3).new f4 (fun _ _ e => e) (fun k e => own_ge own3 k e), by show 0 ≤ i + 1; omega, by show i + 1 ≤ (l.length : Int); omega, ?_, rfl⟩
    · exact ⟨rfl, rfl, look_int rfl (wrap_i64 (by omega) (by omega)), trivial⟩
    · show OwnR w4 w.heap.size v' (l.take (i + 1).toNat)
      unfold OwnR
      rw [er, candsL_app, List.length_append]
      exact own4
  · have g0 : ¬ i < (l.length : Int) := g0
    rw [List.take_of_length_le (by omega)] at own
    exact ⟨own, f2⟩
theorem Next18_spec (v tv : Value) (l : List (Int × Int)) (tk : List Int) (w : World) (h : Cands w v l) (ht : Ints w tv tk) (hl : l.length ≤ 300) (htk : tk.length ≤ 1000000) :
    CallC Pr f_gleanerref18_Next [v, tv] w (fun r w' => OwnR w' w.heap.size r (keepF tk l) ∧ Fr No w w') := by
  obtain ⟨a, c, ev, _⟩ := id h
  subst ev
  obtain ⟨a2, c2, ev, _⟩ := id ht
  subst ev
  refine call_sound T_ok fun_gleanerref18_Next rfl (by kernel_rfl) rfl (Kp ?_)
  refine LoopC_intro (α := Int × Value) (fun q => [(0, .slice a l.length c), (1, .slice a2 tk.length c2), (5, q.2), (6, .int .i64 q.1)])
    (fun m q w2 => Fr No w w2 ∧ 0 ≤ q.1 ∧ q.1 ≤ l.length ∧ OwnR w2 w.heap.size q.2 (keepF tk (l.take q.1.toNat)) ∧ m = (l.length - q.1).toNat)
    l.length (0, .slice none 0 0) ⟨rfl, rfl, rfl, rfl, trivial⟩ ⟨Fr.refl _ _, Int.le_refl _, by show (0 : Int) ≤ _; omega, World.ownsRow_nil _ _ _ _, by show _ = ((l.length : Int) - 0).toNat; omega⟩ (fun m q w2 hJ => Kp ?_)
  obtain ⟨f2, i0, i1, own, hm⟩ := hJ
  obtain ⟨i, vo⟩ := q
  have i0 : 0 ≤ i := i0
  have i1 : i ≤ l.length := i1
  have own : OwnR w2 w.heap.size vo (keepF tk (l.take i.toNat)) := own
  refine Br_dec (fun g0 => ?_) (fun g0 => ?_)
  · have g0 : i < (l.length : Int) := g0
    have hi : i.toNat < l.length := by omega
    have hli : l[i.toNat]? = some l[i.toNat] := List.getElem?_eq_getElem hi
    have hC := h.keep f2 (fun _ _ => id)
    have hT := ht.keep f2 (fun _ _ => id)
    refine LoopC_intro (α := Int × Bool) (fun q => [(0, .slice a l.length c), (1, .slice a2 tk.length c2), (5, vo), (6, .int .i64 i), (7, .bool q.2), (8, .int .i64 q.1)])
      (fun m q w3 => Fr No w2 w3 ∧ 0 ≤ q.1 ∧ q.1 ≤ tk.length ∧ q.2 = decide (l[i.toNat].1 ∈ tk.take q.1.toNat) ∧ m = (tk.length - q.1).toNat)
      tk.length (0, false) ⟨rfl, rfl, rfl, rfl, rfl, rfl, trivial⟩ ⟨Fr.refl _ _, Int.le_refl _, by show (0 : Int) ≤ _; omega, by show false = decide (_ ∈ ([] : List Int)); rw [eq_comm, decide_eq_false_iff_not]; simp, by show _ = ((tk.length : Int) - 0).toNat; omega⟩ (fun m q w3 hJ => Kp ?_)
    obtain ⟨f3, k0, k1, hr, hm3⟩ := hJ
    obtain ⟨k, r⟩ := q
    have k0 : 0 ≤ k := k0
    have k1 : k ≤ tk.length := k1
    have hr : r = decide (l[i.toNat].1 ∈ tk.take k.toNat) := hr
    refine Br_dec (fun g1 => ?_) (fun g1 => ?_)
    · have g1 : k < (tk.length : Int) := g1
      have hk : k.toNat < tk.length := by omega
      have etk : (l[i.toNat].1 ∈ tk.take (k + 1).toNat) ↔ (l[i.toNat].1 ∈ tk.take k.toNat ∨ tk[k.toNat] = l[i.toNat].1) := by
        rw [show (k + 1).toNat = k.toNat + 1 by omega, List.take_add_one, List.getElem?_eq_getElem hk, List.mem_append]
        simp only [Option.toList_some, List.mem_singleton]
        rw [eq_comm (a := l[i.toNat].1)]
      obtain ⟨x1, e1, hx1⟩ := (hC.keep f3 (fun _ _ => id)).cell rfl hi
      obtain ⟨x2, e2, hx2⟩ := (hT.keep f3 (fun _ _ => id)).cell hk
      refine AnyC_lex T_ok mixed (by kernel_rfl) (by kernel_rfl) (Kp ?_)
      refine Br_intro (fun g2 => ?_) (fun g2 => ?_)
      · refine ⟨(tk.length - (k + 1)).toNat, _, by omega, ?_, (k + 1, true), rfl, f3.drew', by show 0 ≤ k + 1; omega, by show k + 1 ≤ (tk.length : Int); omega, ?_, rfl⟩
        · exact ⟨rfl, rfl, rfl, rfl, rfl, look_int rfl (wrap_i64 (by omega) (by omega)), trivial⟩
        · show true = decide (l[i.toNat].1 ∈ tk.take (k + 1).toNat)
          have g2 : r = true := g2
          rw [g2, eq_comm, decide_eq_true_iff] at hr
          rw [eq_comm, decide_eq_true_iff, etk]
          exact .inl hr
      · subst e1 e2
        refine Sd_intro (show 0 ≤ k ∧ k < (tk.length : Int) by omega) ?_
        refine LdS_old (v := .int .i64 tk[k.toNat]) (by rw [Nat.mul_one]; exact hx2) ?_
        refine Sd_intro (show 0 ≤ i ∧ i < (l.length : Int) by omega) ?_
        refine LdS_old (v := .int .i64 l[i.toNat].1) (hx1 0 _ rfl) ?_
        refine ⟨(tk.length - (k + 1)).toNat, _, by omega, ?_, (k + 1, decide (tk[k.toNat] = l[i.toNat].1)), rfl, f3.drew', by show 0 ≤ k + 1; omega, by show k + 1 ≤ (tk.length : Int); omega, ?_, rfl⟩
        · exact ⟨rfl, rfl, rfl, rfl, rfl, look_int rfl (wrap_i64 (by omega) (by omega)), trivial⟩
        · show decide (tk[k.toNat] = l[i.toNat].1) = decide (l[i.toNat].1 ∈ tk.take (k + 1).toNat)
          have g2 : r = false := g2
          rw [g2, eq_comm, decide_eq_false_iff_not] at hr
          rw [decide_eq_decide, etk]
          constructor
          · exact .inr
          · rintro (h | h)
            · exact absurd h hr
            · exact h
    · have g1 : ¬ k < (tk.length : Int) := g1
      rw [List.take_of_length_le (by omega)] at hr
      have own3 : OwnR w3 w.heap.size vo (keepF tk (l.take i.toNat)) := own_keep own f3 (fun _ _ => id)
      have F3 := f2.no f3
      have er : keepF tk (l.take (i + 1).toNat) = keepF tk (l.take i.toNat) ++ (if l[i.toNat].1 ∈ tk then [] else [l[i.toNat]]) := by
        rw [show (i + 1).toNat = i.toNat + 1 by omega]; exact keepF_snoc tk l hli
      subst hr
      refine Br_ndec (fun g2 => ?_) (fun g2 => ?_)
      · have g2 : ¬ l[i.toNat].1 ∈ tk := g2
        obtain ⟨x, rfl, hx⟩ := (hC.keep f3 (fun _ _ => id)).cell rfl hi
        refine Sd_intro (show 0 ≤ i ∧ i < (l.length : Int) by omega) ?_
        refine LdN_cells (vs := candL l[i.toNat]) hx rfl ?_
        refine NewC_blk (fun p w4 hp h4 f4 s4 => ?_)
        have h4 : Blk w4 p t_gleanerref18_Candidate (candL l[i.toNat]) := h4
        have hlen : (keepF tk (l.take i.toNat)).length ≤ 300 := by
          have := List.length_filter_le (fun c => !decide (c.1 ∈ tk)) (l.take i.toNat)
          rw [List.length_take] at this
          unfold keepF
          omega
        have own4 : w4.ownsRow w.heap.size t_gleanerref18_Candidate 2 vo (keepF tk (l.take i.toNat)).length (candsL (keepF tk (l.take i.toNat))) := own_keep own3 f4 (fun _ _ => id)
        have s2 := F3.size
        refine ApL T_ok (base := w.heap.size) (xs := candsL (keepF tk (l.take i.toNat))) (news := candL l[i.toNat]) rfl rfl rfl (by decide) own4 (by omega) h4 rfl rfl rfl (by omega) (show ((keepF tk (l.take i.toNat)).length + 1) * 16 ≤ _ by omega) (fun v' w5 own5 f5 loc => ?_)
        refine ⟨(l.length - (i + 1)).toNat, _, by omega, ?_, (i + 1, v'), rfl, (F3.no f4).new f5 (fun _ _ e => e) (fun k e => own_ge own4 k e), by show 0 ≤ i + 1; omega, by show i + 1 ≤ (l.length : Int); omega, ?_, rfl⟩
        · exact ⟨rfl, rfl, rfl, look_int rfl (wrap_i64 (by omega) (by omega)), trivial⟩
        · show OwnR w5 w.heap.size v' (keepF tk (l.take (i + 1).toNat))
          unfold OwnR
          rw [er, if_neg g2, candsL_app, List.length_append]
          exact own5
      · have g2 : l[i.toNat].1 ∈ tk := g2
        refine ⟨(l.length - (i + 1)).toNat, _, by omega, ?_, (i + 1, vo), rfl, F3, by show 0 ≤ i + 1; omega, by show i + 1 ≤ (l.length : Int); omega, ?_, rfl⟩
        · exact ⟨rfl, rfl, rfl, look_int rfl (wrap_i64 (by omega) (by omega)), trivial⟩
        · show OwnR w3 w.heap.size vo (keepF tk (l.take (i + 1).toNat))
          rw [er, if_pos g2, List.append_nil]; exact own3
  · have g0 : ¬ i < (l.length : Int) := g0
    rw [List.take_of_length_le (by omega)] at own
    exact ⟨own, f2⟩
end Go.Proofs.Ytfokdnmidfmddaa
