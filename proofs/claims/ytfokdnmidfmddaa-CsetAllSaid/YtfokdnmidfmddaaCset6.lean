/- Layer 18's laws: awake, and what is handed in isn't changed. -/
import Derived.Test.YtfokdnmidfmddaaCsetLaw
namespace Go.Proofs.Ytfokdnmidfmddaa
open Go.Vc Go.Sort

theorem Ints_own {w : World} {b : Nat} {l : List Int} (h : Blk w b t_int (ints l)) : Ints w (.slice (some ⟨b, 0, none⟩) l.length l.length) l :=
  ⟨_, _, rfl, .inr ⟨_, rfl, fun i z hi => by rw [add_of, Nat.zero_add]; exact h.cell (ints_get? hi)⟩⟩
theorem Cands_blk {w : World} {b t : Nat} {l : List (Int × Int)} (h : Blk w b t (candsL l)) : Cands w (.slice (some ⟨b, 0, none⟩) l.length l.length) l :=
  ⟨_, _, rfl, (fun e => by cases e), fun x e i z hi => by
    injection e with e
    subst e
    have := candsL_get hi
    rw [add_of, add_of, Nat.zero_add, Nat.zero_add]
    exact ⟨h.cell this.1, h.cell this.2⟩⟩
theorem result18 {l' : List (Int × Int)} (p : l'.Perm [(9, 30), (1, 10), (4, 10)]) (hs : Sorted l') : resultL [5, 2] 25 l' = [1, 2, 4, 5] := by
  have s0 : Sorted [(1, 10), (4, 10), (9, 30)] := by
    intro i j a b hij hi hj
    rw [cmpK_neg, liveK_le, liveK_le]
    have hjl := (List.getElem?_eq_some_iff.1 hj).1
    simp at hjl
    rcases (by omega : (i = 0 ∧ j = 1) ∨ (i = 0 ∧ j = 2) ∨ (i = 1 ∧ j = 2)) with ⟨rfl, rfl⟩ | ⟨rfl, rfl⟩ | ⟨rfl, rfl⟩ <;> (injection hi with hi; injection hj with hj; subst hi; subst hj; decide)
  have p0 : l'.Perm [(1, 10), (4, 10), (9, 30)] := p.trans (by decide)
  have e : takeB 25 l' = [1, 4] := by
    rw [takeB_keys 25 _ _ (keys_eq hs s0 p0), takeB_cons (by rw [liveK_le]; decide), takeB_cons (by rw [liveK_le, liveK_le]; decide), takeB_nil (by rw [liveK_le, liveK_le, liveK_le]; decide)]
  refine strict_eq (result_strict _ _ _) (by decide) (fun x => ?_)
  rw [result_mem, e]
  simp
  omega
theorem awake18_spec (w : World) : CallC Pr f_gleanerlaw18_awake [] w (fun v w' => v = .bool true ∧ Fr No w w') := by
  obtain ⟨L, hL⟩ : ∃ L : List (Int × Int), L = [(9, 30), (1, 10), (4, 10)] := ⟨_, rfl⟩
  obtain ⟨k1, hk1⟩ : ∃ L : List Int, L = [1] := ⟨_, rfl⟩
  obtain ⟨y1, hy1⟩ : ∃ L : List Int, L = [5, 2] := ⟨_, rfl⟩
  obtain ⟨e1, he1⟩ : ∃ L : List Int, L = [1, 2, 4, 5] := ⟨_, rfl⟩
  have ll : L.length ≤ 300 := by rw [hL]; decide
  have lk : k1.length ≤ 300 := by rw [hk1]; decide
  have ly : y1.length ≤ 300 := by rw [hy1]; decide
  have le : (e1.length : Int) ≤ 300 := by rw [he1]; decide
  refine call_sound T_ok fun_gleanerlaw18_awake rfl (by kernel_rfl) rfl (Kp ?_)
  rw [codeVC_seq', codeVC_rg]
  refine ops_step (.bool false) (by rfl) (by kernel_rfl) (by intro K h; exact h) (Kp ?_)
  rw [opsVC_nil]
  dsimp only
  rw [codeVC_seq', codeVC_rg]
  refine ops_step (.agg (candL (9, 30)).toArray) (by rfl) (by kernel_rfl) (by intro K h; exact h) (Kp ?_)
  refine ops_step (.agg (candL (1, 10)).toArray) (by rfl) (by kernel_rfl) (by intro K h; exact h) (Kp ?_)
  refine ops_step (.agg (candL (4, 10)).toArray) (by rfl) (by kernel_rfl) (by intro K h; exact h) (Kp ?_)
  refine NewC_blk (fun b w1 hb h1 f1 s1 => Kp ?_)
  have hC : Cands w1 (.slice (some ⟨b, 0, none⟩) 3 3) L := by
    have h1 : Blk w1 b t_cset_Candidate (candsL [(9, 30), (1, 10), (4, 10)]) := h1
    rw [hL]; exact Cands_blk h1
  refine NewC_blk (fun t w2 ht h2 f2 s2 => Kp ?_)
  have hI : Ints w2 (.slice (some ⟨t, 0, none⟩) 1 1) k1 := by
    have h2 : Blk w2 t t_int (ints [1]) := h2
    rw [hk1]; exact Ints_own h2
  have hC := hC.keep f2 (fun _ _ => id)
  refine CallC_intro (Next_spec _ _ L k1 w2 hC hI (by omega) (by omega)) (fun r2 w3 ⟨own3, f3⟩ => Kp ?_)
  have hC := hC.keep f3 (fun _ _ => id)
  dsimp only [Env.put, envOf]
  refine gd_step r2 (by rfl) (by kernel_rfl) (by intro K h; exact h) ?_
  refine NewC_blk (fun y w4 hy h4 f4 s4 => Kp ?_)
  have hY : Ints w4 (.slice (some ⟨y, 0, none⟩) 2 2) y1 := by
    have h4 : Blk w4 y t_int (ints [5, 2]) := h4
    rw [hy1]; exact Ints_own h4
  have hC := hC.keep f4 (fun _ _ => id)
  refine CallC_intro (Choose_spec _ _ y1 L 25 w4 hY hC ly ll (by decide)) (fun r5 w5 ⟨⟨l', p, hs, own5⟩, f5⟩ => Kp ?_)
  have own5 : Own w5 w4.heap.size r5 (resultL y1 25 l') := own5
  have hres : resultL y1 25 l' = e1 := by rw [hy1, he1]; rw [hL] at p; exact result18 p hs
  rw [hres] at own5
  refine NewC_blk (fun e w6 he h6 f6 s6 => Kp ?_)
  have hE : Ints w6 (.slice (some ⟨e, 0, none⟩) 4 4) e1 := by
    have h6 : Blk w6 e t_int (ints [1, 2, 4, 5]) := h6
    rw [he1]; exact Ints_own h6
  have own5 := own5.keep f6 (fun _ _ => id)
  refine CallC_intro (Same_spec r5 _ e1 e1 w6 own5.ints hE (by omega)) (fun v w7 ⟨hv, f7⟩ => Kp ?_)
  rw [decide_eq_true rfl] at hv
  subst hv
  have f37 : Fr No w3 w7 := ((f4.no f5).no f6).no f7
  have own3 := own_keep own3 f37 (fun _ _ => id)
  have F7 : Fr No w w7 := ((f1.no f2).no f3).no f37
  have hk : keepF k1 L = [(9, 30), (4, 10)] := by rw [hk1, hL]; decide
  have own3 : OwnC w7 w2.heap.size r2 [(9, 30), (4, 10)] := by rw [← hk]; exact own3
  rcases own_cases own3 with ⟨_, h0, _⟩ | ⟨g, cap, cur, rfl, hg, hgb, hgt, hgn⟩
  · exact absurd h0 (by decide)
  refine Sd_intro (show (0 : Int) ≤ 1 ∧ (1 : Int) < 2 by decide) ?_
  refine LdN_idx (vs := candL (4, 10)) hgb ?_ rfl ?_
  · exact candsL_take (l := [(9, 30), (4, 10)]) (n := 2) hgt (i := 1) (by decide) (by decide)
  refine EqS (cs := candL (4, 10)) (ds := candL (4, 10)) (by kernel_rfl) ?_
  exact ⟨rfl, F7⟩
end Go.Proofs.Ytfokdnmidfmddaa
