/- Layer 11 (remset): Add of a source that is sparse. -/
import Derived.Test.YtdhbpklmkibmbaaGreatRem2
import Derived.Test.YtdhbpklmkibmbaaGreatSlInt
namespace Go.Vc
variable {P : Program} {κ : Type} [DecidableEq κ] {kv : κ → Value} {w w' : World} {b : Nat} {m : List (κ × Value)} {T : Tab}
theorem LookN (hT : T.Ok P) {t tk te : Nat} {z v : Value} (ht : T.d t = .map tk te) (K : KeyOk P tk kv) (hz : ∀ w, (zeroValue te).run P w = .ok z w) (h : MapG kv w b m) (k : κ) {Q : Value → World → Prop} (hv : (getM m k).getD z = v)
    (hk : Q v w) : RunC P (Instr.lookup t (.map (some b)) (kv k) false) w Q := LookC hT ht K hz h k false (by rw [hv]; exact hk)
end Go.Vc
namespace Go.Proofs.YtdhbpklmkibmbaaGreat
open Go.Vc

/-- What a sparse source's row is. -/
theorem sp_row {w : World} {b m1 m2 m3 : Nat} {n per : Int} {sp : List SpE} {fi : List FiE} {co : List (Int × Int)} (h : SetsG w b m1 m2 m3 n per sp fi co) (k : Int × Int) {l : List Int} (hl : (spGet sp k = none ∧ l = []) ∨ ∃ o, spGet sp k = some o ∧ o.l = l) :
    ∃ a cp, (getM (spM sp) k).getD (.slice none 0 0) = .slice a l.length cp ∧ Own w 0 (.slice a l.length cp) l ∧ (∀ x, (Value.slice a l.length cp).ownBlock = some x ↔ ∃ o, spGet sp k = some o ∧ x = o.g) := by
  rcases hl with ⟨h1, rfl⟩ | ⟨o, h1, rfl⟩
  · refine ⟨none, 0, by rw [(spGet_none h1).1]; rfl, Own.nil _ _, fun x => ⟨(fun e => by cases e), fun ⟨o, ho, _⟩ => by rw [h1] at ho; cases ho⟩⟩
  · obtain ⟨hm, hk, hg⟩ := spGet_some h1
    refine ⟨some ⟨o.g, 0, none⟩, o.cap, by rw [hg]; rfl, h.rows o hm, fun x => ⟨fun e => ⟨o, h1, ?_⟩, fun ⟨o', ho, ex⟩ => ?_⟩⟩
    · have e : some o.g = some x := e
      injection e with e
      exact e.symm
    · rw [h1] at ho
      injection ho with ho
      subst ho
      rw [ex]; rfl
theorem Add_sp {b m1 m2 m3 : Nat} {n per : Int} {sp : List SpE} {fi : List FiE} {co : List (Int × Int)} (hm c : Int) (l : List Int) (w : World) (h : SetsG w b m1 m2 m3 n per sp fi co) (hp : 1 ≤ per) (hn : 1 ≤ n) (hnp : n * per ≤ 4194304) (hr : 0 ≤ hm ∧ hm < n ∧ 0 ≤ c ∧ c < n * per) (hne : hm ≠ c / per)
    (hco : getM (coM co) (hm, c / per) = none) (hfi : getM (fiM fi) (hm, c / per) = none) (hl : (spGet sp (hm, c / per) = none ∧ l = []) ∨ ∃ o, spGet sp (hm, c / per) = some o ∧ o.l = l) (hc : c ∉ l) (h4 : l.length < 4) :
    CallC Pr f_remset_Sets_Add [.pointer (some ⟨b, 0, none⟩), .int .i64 hm, .int .i64 c] w (fun v w' => v = .tuple #[.bool true, .int .i64 0] ∧ (∃ e : SpE, e.k = (hm, c / per) ∧ e.l = l ++ [c] ∧ SetsG w' b m1 m2 m3 n per (putSp sp e) fi co ∧ ((∃ o, spGet sp (hm, c / per) = some o ∧ e.g = o.g) ∨ w.heap.size ≤ e.g)) ∧
      Fr (fun x => x = m1 ∨ ∃ o, spGet sp (hm, c / per) = some o ∧ x = o.g) w w') := by
  refine call_sound T_ok fun_remset_Sets_Add rfl (by kernel_rfl) rfl (Kp ?_)
  refine CallC_intro (rkey_spec hm c w h.tab hp hn hnp) (fun v w1 ⟨hv, f1⟩ => ?_)
  have hv : v = .tuple #[pairV (hm, c / per), .int .i64 0] := by
    rcases hv with ⟨_, _, _, _, hv⟩ | ⟨hn', _⟩
    · exact hv
    · exact absurd hr hn'
  subst hv
  refine NewC_blk (fun p w2 hp2 h2 f2 s2 => ?_)
  refine StN_blk h2 rfl (Nat.le_of_ble_eq_true rfl) (fun w3 h3 f3 s3 => ?_)
  have h3 : Blk w3 p t_remset_pair (pairL (hm, c / per)) := h3
  have f13 : Fr No w1 w3 := f2.new f3 (fun _ _ e => e) (fun k e => by omega)
  have F3 := f1.no f13
  have H3 := h.keep F3 (fun _ _ => id) (fun _ _ => id)
  refine LdC_blk h3 rfl ?_
  refine LdC_blk h3 rfl ?_
  refine Br_df hne ?_
  obtain ⟨k, hk⟩ : ∃ k, k = (hm, c / per) := ⟨_, rfl⟩
  rw [← hk] at h3 hco hfi hl ⊢
  refine AnyC_plan T_ok mixed (planO [0,1,2,3,4,1005,6]) (Old w3) (by kernel_rfl) (by kernel_rfl) (fun _ _ => rfl) (Kp ?_)
  refine LdS_blk H3.tab rfl ?_
  refine LdSN_blk (vs := pairL k) h3 rfl rfl ?_
  refine ⟨?_, trivial⟩
  refine LookN T_ok (kv := pairV) rfl keyP zv_bool (H3.map3.keep (Fr.drew w3) id) k (v := .bool false) (by rw [hco]; rfl) ?_
  refine Sd_intro (fun _ _ => rfl) ?_
  have H4 := H3.keep (Fr.drew w3) (fun _ _ => id) (fun _ _ => id)
  have h4' := h3.keep (Fr.drew w3) id
  refine AnyC_plan T_ok mixed (planO [0,1,2,3,4,1005,6]) (Old w3.drew) (by kernel_rfl) (by kernel_rfl) (fun _ _ => rfl) (Kp ?_)
  refine LdS_blk H4.tab rfl ?_
  refine LdSN_blk (vs := pairL k) h4' rfl rfl ?_
  refine ⟨?_, trivial⟩
  refine LookN T_ok (kv := pairV) rfl keyP zv_p_bits_Set (H4.map2.keep (Fr.drew w3.drew) id) k (v := .pointer none) (by rw [hfi]; rfl) ?_
  refine Sd_intro (fun _ _ => rfl) ?_
  have H5 := H4.keep (Fr.drew w3.drew) (fun _ _ => id) (fun _ _ => id)
  have h5' := h4'.keep (Fr.drew w3.drew) id
  obtain ⟨a, cp, hv, hown, hblk⟩ := sp_row H5 k hl
  refine AnyC_plan T_ok mixed (planO [0,1,2,3,4,1005,6]) (Old w3.drew.drew) (by kernel_rfl) (by kernel_rfl) (fun _ _ => rfl) (Kp ?_)
  refine LdS_blk H5.tab rfl ?_
  refine LdSN_blk (vs := pairL k) h5' rfl rfl ?_
  refine ⟨?_, trivial⟩
  refine LookN T_ok (kv := pairV) rfl keyP zv_s_int (H5.map1.keep (Fr.drew w3.drew.drew) id) k hv ?_
  refine Sd_intro (fun _ _ => rfl) ?_
  have f35 : Fr No w3 w3.drew.drew.drew := ((Fr.drew w3).no (Fr.drew w3.drew)).no (Fr.drew w3.drew.drew)
  have s35 : w3.drew.drew.drew.heap.size = w3.heap.size := rfl
  generalize w3.drew.drew.drew = w6 at f35 s35 ⊢
  have H6 := H3.keep f35 (fun _ _ => id) (fun _ _ => id)
  have h6 := h3.keep f35 id
  have F6 := F3.no f35
  have hown6 : Own w6 0 (.slice a l.length cp) l := by
    obtain ⟨a2, cp2, hv2, ho2, _⟩ := sp_row H6 k hl
    rw [hv] at hv2
    injection hv2 with e1 _ e2
    rw [e1, e2]; exact ho2
  refine CallC_intro (Contains_spec (.slice a l.length cp) l c w6 hown6.ints (by omega)) (fun v w7 ⟨hv7, f7⟩ => ?_)
  subst hv7
  refine Br_df hc ?_
  refine Br_dt (show (l.length : Int) < 4 by omega) ?_
  have H7 := H6.keep f7 (fun _ _ => id) (fun _ _ => id)
  have h7 := h6.keep f7 id
  have F7 := F6.no f7
  have pb : p ∉ restB b m1 m2 m3 fi ∧ ∀ e ∈ sp, p ≠ e.g := by
    have s1 := f1.size
    refine ⟨fun hm => ?_, fun e he hp => ?_⟩
    · have := h.rest_lt p hm; omega
    · have := spV_lt (h.rows e he); omega
  refine AnyC_plan T_ok mixed (planO [0,1,2,3,4,5,6,1007,1008,1009]) (fun w' => Blk w' b t_remset_Sets (setsL n per m1 m2 m3) ∧ Blk w' p t_remset_pair (pairL k)) (by kernel_rfl) (by kernel_rfl) ⟨H7.tab.keep (Fr.drew w7) id, h7.keep (Fr.drew w7) id⟩ (Kp ?_)
  refine LdS_of (fun w' hw => hw.1) rfl ?_
  refine LdSN_of (vs := pairL k) (fun w' hw => hw.2) rfl rfl ?_
  refine ⟨?_, trivial⟩
  refine NewC_blk (fun x w8 hx h8 f8 s8 => ?_)
  have h8 : Blk w8 x t_int [.int .i64 c] := h8
  have f78 : Fr No w7 w8 := (Fr.drew w7).no f8
  have H8 := H7.keep f78 (fun _ _ => id) (fun _ _ => id)
  have hp8 := h7.keep f78 id
  refine Sd_intro ⟨H8.tab, hp8⟩ ?_
  refine ⟨?_, trivial⟩
  have own8 : w8.ownsRow 0 t_int 1 (.slice a l.length cp) l.length (ints l) := (hown6.keep f7 (fun _ _ => id)).keep f78 (fun _ _ => id)
  refine ApL T_ok (base := 0) (xs := ints l) (news := [.int .i64 c]) rfl rfl rfl (by decide) own8 (Nat.zero_le _) h8 rfl rfl rfl (by omega) (show (l.length + 1) * 8 ≤ _ by omega) (fun v' w9 own9 f9 loc => ?_)
  have own9 : w9.ownsRow 0 t_int 1 v' (l.length + 1) (ints l ++ [.int .i64 c]) := own9
  have hF9 : ∀ y, (Value.slice a l.length cp).ownBlock = some y → ∃ o, spGet sp k = some o ∧ y = o.g := fun y e => (hblk y).1 e
  have nb9 : ∀ y ∈ restB b m1 m2 m3 fi, ¬ (Value.slice a l.length cp).ownBlock = some y := fun y hy e => by
    obtain ⟨o, ho, ey⟩ := hF9 y e
    exact h.dj o (spGet_some ho).1 (by rw [← ey]; exact hy)
  have hb9 := H8.tab.keep f9 (nb9 b (by simp [restB]))
  have hp9 := hp8.keep f9 (fun e => by
    obtain ⟨o, ho, ey⟩ := hF9 p e
    exact pb.2 o (spGet_some ho).1 ey)
  refine Sd_intro ⟨hb9, hp9⟩ ?_
  refine ⟨?_, trivial⟩
  rcases own_cases own9 with ⟨_, h0, _⟩ | ⟨g, cap, cur, hv', _, hbg, htk, _⟩
  · omega
  subst hv'
  refine UpdC T_ok (kv := pairV) rfl keyP (H8.map1.keep f9 (nb9 m1 (by simp [restB]))) k _ (fun w10 hM10 f10 s10 => ?_)
  have gs : g = w8.heap.size ∨ ∃ o, spGet sp k = some o ∧ g = o.g := by
    rcases loc with e | e
    · exact .inr (hF9 g (by rw [← e]; rfl))
    · left; have e : some g = some w8.heap.size := e; injection e
  have gm : g ≠ m1 := by
    rcases gs with e | ⟨o, ho, e⟩
    · have := H8.map1.lt; omega
    · intro e2; exact h.dj o (spGet_some ho).1 (by rw [← e, e2]; simp [restB])
  have f810 : Fr (fun y => y = m1 ∨ ∃ o, spGet sp k = some o ∧ y = o.g) w8 w10 := f9.trans f10 (fun y _ e => .inr (hF9 y e)) (fun y _ e => .inl e)
  have bm : b ≠ m1 := by
    have := h.rs
    unfold restB at this
    simp only [List.nodup_cons, List.mem_cons, not_or] at this
    exact this.1.1
  have pm : p ≠ m1 := fun e => pb.1 (by rw [e]; simp [restB])
  refine Sd_intro ⟨hb9.keep f10 bm, hp9.keep f10 pm⟩ ?_
  have FF : Fr (fun y => y = m1 ∨ ∃ o, spGet sp k = some o ∧ y = o.g) w w10 := (F7.no f78).noL f810
  refine ⟨rfl, ⟨⟨k, g, cap, l ++ [c]⟩, by first | rfl | exact hk, rfl, ?_, ?_⟩, ?_⟩
  · refine h.put (e := ⟨k, g, cap, l ++ [c]⟩) FF (fun y hy => hy) ?_ ?_ ?_
    · have : spV ⟨k, g, cap, l ++ [c]⟩ = .slice (some ⟨g, 0, none⟩) (l.length + 1) cap := by unfold spV; simp
      rw [this]; exact hM10
    · show Own w10 0 (.slice (some ⟨g, 0, none⟩) (l ++ [c]).length cap) (l ++ [c])
      have := own_keepV own9 f10 (fun y e hy => by
        have e : some g = some y := e
        injection e with e
        exact gm (e.trans hy))
      unfold Own
      rw [ints_append, List.length_append]
      exact this
    · rcases gs with e | e
      · right; have := (F7.no f78).size; show w.heap.size ≤ g; omega
      · left; exact e
  · rcases gs with e | e
    · right; have := (F7.no f78).size; show w.heap.size ≤ g; omega
    · left; exact e
  · exact FF
end Go.Proofs.YtdhbpklmkibmbaaGreat
