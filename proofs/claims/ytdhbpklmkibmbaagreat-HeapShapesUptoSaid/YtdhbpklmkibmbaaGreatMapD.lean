/- maps.DeleteFunc. -/
import Derived.Test.YtdhbpklmkibmbaaGreatRem1
namespace Go.Proofs.YtdhbpklmkibmbaaGreat
open Go.Vc

theorem iter_nodupD {κ : Type} {kv : κ → Value} {w : World} {b r : Nat} {m left : List (κ × Value)} {cur : Option (κ × Value)} (h : IterG kv w b r m left cur) : (left.map (·.1)).Nodup := by
  obtain ⟨_, es, clock, since, seen, c0, h1, h2, h3, h4, h5, h6, h7, h8, h9, hs, _⟩ := h
  exact (hs.map _).nodup h3
theorem len_delD {l : List ((Int × Int) × Value)} {x : (Int × Int) × Value} (hx : x ∈ l) : (delM l x.1).length < l.length := by
  unfold delM
  exact List.length_filter_lt_length_iff_exists.2 ⟨x, hx, by simp⟩
theorem filter_del {m : List ((Int × Int) × Value)} {P : Int × Int → Bool} {k : Int × Int} (h : P k = true) : (delM m k).filter (fun x => !P x.1) = m.filter (fun x => !P x.1) := by
  unfold delM
  rw [List.filter_filter]
  refine List.filter_congr fun x _ => ?_
  by_cases c : x.1 = k
  · rw [c, h]; simp
  · simp [c]
theorem DelF_sp {b : Nat} {m : List ((Int × Int) × Value)} (c0 : Value) (P : Int × Int → Bool) (w : World) (h : MapG pairV w b m)
    (hf : ∀ k v w', Fr (· = b) w w' → CallC Pr f_remset_Sets_forget_1 [.agg (pairL k).toArray, v, c0] w' (fun r w'' => r = .bool (P k) ∧ Fr No w' w'')) :
    CallC Pr f_maps_DeleteFunc_map_remset_pair___int_remset_pair___int_ [.map (some b), .func (.func f_remset_Sets_forget_1) #[] #[c0]] w (fun _ w' => MapG pairV w' b (m.filter fun x => !P x.1) ∧ Fr (· = b) w w') := by
  refine call_sound T_ok fun_maps_DeleteFunc_map_remset_pair___int_remset_pair___int_ rfl (by kernel_rfl) rfl (Kp ?_)
  refine RangeC T_ok rfl h (fun it w2 hit hI2 f2 s2 => ?_)
  have hb := h.lt
  refine LoopC_intro (α := Unit) (fun _ => [(0, .map (some b)), (1, .func (.func f_remset_Sets_forget_1) #[] #[c0]), (7, .pointer (some ⟨it, 0, none⟩))])
    (fun n _ w3 => Fr (· = b) w w3 ∧ ∃ mm left cur, IterG pairV w3 b it mm left cur ∧ mm.filter (fun x => !P x.1) = m.filter (fun x => !P x.1) ∧ (∀ x ∈ mm, x ∈ left ∨ P x.1 = false) ∧ n = left.length)
    m.length () ⟨rfl, rfl, rfl, trivial⟩ ⟨f2.weak (fun _ _ e => e.elim), m, m, none, hI2, rfl, fun x hx => .inl hx, rfl⟩ (fun n _ w3 hJ => Kp ?_)
  obtain ⟨F3, mm, left, cur, hI3, hm3, hl3, hn3⟩ := hJ
  refine NextC pairV_inj hI3 (fun hl0 => ?_) (fun x hx w4 hI4 f4 s4 => ?_)
  · refine ⟨?_, F3⟩
    have e : mm = m.filter fun x => !P x.1 := by
      rw [← hm3]
      symm
      rw [List.filter_eq_self]
      intro x hx
      rcases hl3 x hx with h1 | h1
      · rw [hl0] at h1; cases h1
      · rw [h1]; rfl
    rw [← e]; exact hI3.map
  · have ndl := iter_nodupD hI3
    have s3 := F3.size
    have F4 : Fr (· = b) w w4 := F3.new f4 (fun _ _ e => e) (fun k e => by omega)
    obtain ⟨k, v⟩ := x
    refine EntryC hI4 ?_
    refine NewC_blk (fun p w5 e_p h5 f5 s5 => ?_)
    refine StN_blk (h5) rfl (Nat.le_of_ble_eq_true rfl) (fun w6 h6 f6 s6 => ?_)
    have h6 : Blk w6 p t_remset_pair (pairL k) := h6
    have f46 : Fr No w4 w6 := f5.new f6 (fun _ _ e => e) (fun k e => by omega)
    have hI6 := hI4.keep f46 id id
    have F6 : Fr (· = b) w w6 := F4.new f46 (fun _ _ e => e) (fun _ e => e.elim)
    refine LdN_blk (vs := pairL k) (h6) rfl rfl ?_
    refine CallC_intro (hf k v w6 F6) (fun r w7 ⟨hr, f7⟩ => ?_)
    subst hr
    have hI7 := hI6.keep f7 id id
    have h7 := h6.keep f7 id
    have F7 : Fr (· = b) w w7 := F6.new f7 (fun _ _ e => e) (fun _ e => e.elim)
    have ltd : (delM left k).length < left.length := len_delD hx
    refine Br_intro (fun hb2 => ?_) (fun hb2 => ?_)
    · refine LdN_blk (vs := pairL k) (h7) rfl rfl ?_
      refine DelIterC T_ok rfl keyP pairV_inj (x := (k, v)) hI7 (fun hmem => ?_) (fun w8 hI8 f8 s8 => ?_)
      · obtain ⟨y, hy, ey⟩ := List.mem_map.1 hmem
        have := (List.mem_filter.1 hy).2
        simp [ey] at this
      · refine ⟨_, _, (by rw [hn3]; exact ltd), ?_, (), rfl, F7.trans f8 (fun _ _ e => e) (fun _ _ e => e), _, _, none, hI8, ?_, fun y hy => ?_, rfl⟩
        · exact ⟨rfl, rfl, rfl, trivial⟩
        · rw [filter_del hb2]; exact hm3
        · obtain ⟨hy1, hy2⟩ := List.mem_filter.1 hy
          rcases hl3 y hy1 with h1 | h1
          · exact .inl (List.mem_filter.2 ⟨h1, hy2⟩)
          · exact .inr h1
    · refine ⟨_, _, (by rw [hn3]; exact ltd), ?_, (), rfl, F7, _, _, _, hI7, hm3, fun y hy => ?_, rfl⟩
      · exact ⟨rfl, rfl, rfl, trivial⟩
      rcases hl3 y hy with h1 | h1
      · by_cases c : y.1 = k
        · right; rw [c]; exact hb2
        · exact .inl (List.mem_filter.2 ⟨h1, by simpa using c⟩)
      · exact .inr h1
theorem DelF_fi {b : Nat} {m : List ((Int × Int) × Value)} (c0 : Value) (P : Int × Int → Bool) (w : World) (h : MapG pairV w b m)
    (hf : ∀ k v w', Fr (· = b) w w' → CallC Pr f_remset_Sets_forget_2 [.agg (pairL k).toArray, v, c0] w' (fun r w'' => r = .bool (P k) ∧ Fr No w' w'')) :
    CallC Pr f_maps_DeleteFunc_map_remset_pair__bits_Set_remset_pair__bits_Set_ [.map (some b), .func (.func f_remset_Sets_forget_2) #[] #[c0]] w (fun _ w' => MapG pairV w' b (m.filter fun x => !P x.1) ∧ Fr (· = b) w w') := by
  refine call_sound T_ok fun_maps_DeleteFunc_map_remset_pair__bits_Set_remset_pair__bits_Set_ rfl (by kernel_rfl) rfl (Kp ?_)
  refine RangeC T_ok rfl h (fun it w2 hit hI2 f2 s2 => ?_)
  have hb := h.lt
  refine LoopC_intro (α := Unit) (fun _ => [(0, .map (some b)), (1, .func (.func f_remset_Sets_forget_2) #[] #[c0]), (7, .pointer (some ⟨it, 0, none⟩))])
    (fun n _ w3 => Fr (· = b) w w3 ∧ ∃ mm left cur, IterG pairV w3 b it mm left cur ∧ mm.filter (fun x => !P x.1) = m.filter (fun x => !P x.1) ∧ (∀ x ∈ mm, x ∈ left ∨ P x.1 = false) ∧ n = left.length)
    m.length () ⟨rfl, rfl, rfl, trivial⟩ ⟨f2.weak (fun _ _ e => e.elim), m, m, none, hI2, rfl, fun x hx => .inl hx, rfl⟩ (fun n _ w3 hJ => Kp ?_)
  obtain ⟨F3, mm, left, cur, hI3, hm3, hl3, hn3⟩ := hJ
  refine NextC pairV_inj hI3 (fun hl0 => ?_) (fun x hx w4 hI4 f4 s4 => ?_)
  · refine ⟨?_, F3⟩
    have e : mm = m.filter fun x => !P x.1 := by
      rw [← hm3]
      symm
      rw [List.filter_eq_self]
      intro x hx
      rcases hl3 x hx with h1 | h1
      · rw [hl0] at h1; cases h1
      · rw [h1]; rfl
    rw [← e]; exact hI3.map
  · have ndl := iter_nodupD hI3
    have s3 := F3.size
    have F4 : Fr (· = b) w w4 := F3.new f4 (fun _ _ e => e) (fun k e => by omega)
    obtain ⟨k, v⟩ := x
    refine EntryC hI4 ?_
    refine NewC_blk (fun p w5 e_p h5 f5 s5 => ?_)
    refine StN_blk (h5) rfl (Nat.le_of_ble_eq_true rfl) (fun w6 h6 f6 s6 => ?_)
    have h6 : Blk w6 p t_remset_pair (pairL k) := h6
    have f46 : Fr No w4 w6 := f5.new f6 (fun _ _ e => e) (fun k e => by omega)
    have hI6 := hI4.keep f46 id id
    have F6 : Fr (· = b) w w6 := F4.new f46 (fun _ _ e => e) (fun _ e => e.elim)
    refine LdN_blk (vs := pairL k) (h6) rfl rfl ?_
    refine CallC_intro (hf k v w6 F6) (fun r w7 ⟨hr, f7⟩ => ?_)
    subst hr
    have hI7 := hI6.keep f7 id id
    have h7 := h6.keep f7 id
    have F7 : Fr (· = b) w w7 := F6.new f7 (fun _ _ e => e) (fun _ e => e.elim)
    have ltd : (delM left k).length < left.length := len_delD hx
    refine Br_intro (fun hb2 => ?_) (fun hb2 => ?_)
    · refine LdN_blk (vs := pairL k) (h7) rfl rfl ?_
      refine DelIterC T_ok rfl keyP pairV_inj (x := (k, v)) hI7 (fun hmem => ?_) (fun w8 hI8 f8 s8 => ?_)
      · obtain ⟨y, hy, ey⟩ := List.mem_map.1 hmem
        have := (List.mem_filter.1 hy).2
        simp [ey] at this
      · refine ⟨_, _, (by rw [hn3]; exact ltd), ?_, (), rfl, F7.trans f8 (fun _ _ e => e) (fun _ _ e => e), _, _, none, hI8, ?_, fun y hy => ?_, rfl⟩
        · exact ⟨rfl, rfl, rfl, trivial⟩
        · rw [filter_del hb2]; exact hm3
        · obtain ⟨hy1, hy2⟩ := List.mem_filter.1 hy
          rcases hl3 y hy1 with h1 | h1
          · exact .inl (List.mem_filter.2 ⟨h1, hy2⟩)
          · exact .inr h1
    · refine ⟨_, _, (by rw [hn3]; exact ltd), ?_, (), rfl, F7, _, _, _, hI7, hm3, fun y hy => ?_, rfl⟩
      · exact ⟨rfl, rfl, rfl, trivial⟩
      rcases hl3 y hy with h1 | h1
      · by_cases c : y.1 = k
        · right; rw [c]; exact hb2
        · exact .inl (List.mem_filter.2 ⟨h1, by simpa using c⟩)
      · exact .inr h1
theorem DelF_co {b : Nat} {m : List ((Int × Int) × Value)} (c0 : Value) (P : Int × Int → Bool) (w : World) (h : MapG pairV w b m)
    (hf : ∀ k v w', Fr (· = b) w w' → CallC Pr f_remset_Sets_forget_3 [.agg (pairL k).toArray, v, c0] w' (fun r w'' => r = .bool (P k) ∧ Fr No w' w'')) :
    CallC Pr f_maps_DeleteFunc_map_remset_pair_bool_remset_pair_bool_ [.map (some b), .func (.func f_remset_Sets_forget_3) #[] #[c0]] w (fun _ w' => MapG pairV w' b (m.filter fun x => !P x.1) ∧ Fr (· = b) w w') := by
  refine call_sound T_ok fun_maps_DeleteFunc_map_remset_pair_bool_remset_pair_bool_ rfl (by kernel_rfl) rfl (Kp ?_)
  refine RangeC T_ok rfl h (fun it w2 hit hI2 f2 s2 => ?_)
  have hb := h.lt
  refine LoopC_intro (α := Unit) (fun _ => [(0, .map (some b)), (1, .func (.func f_remset_Sets_forget_3) #[] #[c0]), (7, .pointer (some ⟨it, 0, none⟩))])
    (fun n _ w3 => Fr (· = b) w w3 ∧ ∃ mm left cur, IterG pairV w3 b it mm left cur ∧ mm.filter (fun x => !P x.1) = m.filter (fun x => !P x.1) ∧ (∀ x ∈ mm, x ∈ left ∨ P x.1 = false) ∧ n = left.length)
    m.length () ⟨rfl, rfl, rfl, trivial⟩ ⟨f2.weak (fun _ _ e => e.elim), m, m, none, hI2, rfl, fun x hx => .inl hx, rfl⟩ (fun n _ w3 hJ => Kp ?_)
  obtain ⟨F3, mm, left, cur, hI3, hm3, hl3, hn3⟩ := hJ
  refine NextC pairV_inj hI3 (fun hl0 => ?_) (fun x hx w4 hI4 f4 s4 => ?_)
  · refine ⟨?_, F3⟩
    have e : mm = m.filter fun x => !P x.1 := by
      rw [← hm3]
      symm
      rw [List.filter_eq_self]
      intro x hx
      rcases hl3 x hx with h1 | h1
      · rw [hl0] at h1; cases h1
      · rw [h1]; rfl
    rw [← e]; exact hI3.map
  · have ndl := iter_nodupD hI3
    have s3 := F3.size
    have F4 : Fr (· = b) w w4 := F3.new f4 (fun _ _ e => e) (fun k e => by omega)
    obtain ⟨k, v⟩ := x
    refine EntryC hI4 ?_
    refine NewC_blk (fun p w5 e_p h5 f5 s5 => ?_)
    refine StN_blk (h5) rfl (Nat.le_of_ble_eq_true rfl) (fun w6 h6 f6 s6 => ?_)
    have h6 : Blk w6 p t_remset_pair (pairL k) := h6
    have f46 : Fr No w4 w6 := f5.new f6 (fun _ _ e => e) (fun k e => by omega)
    have hI6 := hI4.keep f46 id id
    have F6 : Fr (· = b) w w6 := F4.new f46 (fun _ _ e => e) (fun _ e => e.elim)
    refine LdN_blk (vs := pairL k) (h6) rfl rfl ?_
    refine CallC_intro (hf k v w6 F6) (fun r w7 ⟨hr, f7⟩ => ?_)
    subst hr
    have hI7 := hI6.keep f7 id id
    have h7 := h6.keep f7 id
    have F7 : Fr (· = b) w w7 := F6.new f7 (fun _ _ e => e) (fun _ e => e.elim)
    have ltd : (delM left k).length < left.length := len_delD hx
    refine Br_intro (fun hb2 => ?_) (fun hb2 => ?_)
    · refine LdN_blk (vs := pairL k) (h7) rfl rfl ?_
      refine DelIterC T_ok rfl keyP pairV_inj (x := (k, v)) hI7 (fun hmem => ?_) (fun w8 hI8 f8 s8 => ?_)
      · obtain ⟨y, hy, ey⟩ := List.mem_map.1 hmem
        have := (List.mem_filter.1 hy).2
        simp [ey] at this
      · refine ⟨_, _, (by rw [hn3]; exact ltd), ?_, (), rfl, F7.trans f8 (fun _ _ e => e) (fun _ _ e => e), _, _, none, hI8, ?_, fun y hy => ?_, rfl⟩
        · exact ⟨rfl, rfl, rfl, trivial⟩
        · rw [filter_del hb2]; exact hm3
        · obtain ⟨hy1, hy2⟩ := List.mem_filter.1 hy
          rcases hl3 y hy1 with h1 | h1
          · exact .inl (List.mem_filter.2 ⟨h1, hy2⟩)
          · exact .inr h1
    · refine ⟨_, _, (by rw [hn3]; exact ltd), ?_, (), rfl, F7, _, _, _, hI7, hm3, fun y hy => ?_, rfl⟩
      · exact ⟨rfl, rfl, rfl, trivial⟩
      rcases hl3 y hy with h1 | h1
      · by_cases c : y.1 = k
        · right; rw [c]; exact hb2
        · exact .inl (List.mem_filter.2 ⟨h1, by simpa using c⟩)
      · exact .inr h1
end Go.Proofs.YtdhbpklmkibmbaaGreat
