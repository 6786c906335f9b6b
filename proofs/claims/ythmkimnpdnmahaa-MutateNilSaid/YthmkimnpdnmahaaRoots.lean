/- Layer 12 (roots): contracts. -/
import Derived.Test.YthmkimnpdnmahaaArena
namespace Go.Proofs.Ythmkimnpdnmahaa
open Go.Vc

/-- A stack at b, its row v. -/
structure IsStack (w : World) (b : Nat) (v : Value) (bound : Int) (l : List Int) : Prop where
  tab : Blk w b t_roots_Stack [.int .i64 bound, v]
  own : w.ownsRow 0 t_api_Ref 1 v l.length (u64i l)
  b0 : 1 ≤ bound ∧ bound ≤ 64
  n0 : (l.length : Int) ≤ bound
section
variable {w w' : World} {b : Nat} {v : Value} {bound : Int} {l : List Int}
theorem IsStack.keep {F : Nat → Prop} (h : IsStack w b v bound l) (f : Fr F w w') (hb : ¬ F b) (hv : ∀ k, v.ownBlock = some k → ¬ F k) : IsStack w' b v bound l :=
  ⟨h.tab.keep f hb, own_keepV h.own f hv, h.b0, h.n0⟩
theorem IsStack.ne (h : IsStack w b v bound l) : v.ownBlock ≠ some b := by
  intro e
  obtain ⟨cur, hb, _⟩ := own_blk h.own b e
  have := (h.tab.inj hb).2
  cases this
theorem IsStack.row (h : IsStack w b v bound l) : ∃ a c, v = .slice a l.length c := own_slice h.own
end
theorem roots_New_spec (n : Int) (w : World) (h0 : 1 ≤ n) (h1 : n ≤ 64) : CallC Pr f_roots_New [.int .i64 n] w
    (fun v w' => ∃ b, v = .tuple #[.pointer (some ⟨b, 0, none⟩), .int .i64 0] ∧ IsStack w' b (.slice none 0 0) n [] ∧ Fr No w w' ∧ b = w.heap.size ∧ w'.heap.size = b + 1) := by
  refine call_sound T_ok fun_roots_New rfl (by kernel_rfl) rfl (Kp ?_)
  refine Br_df (show ¬ n < 1 by omega) ?_
  refine Br_df (show ¬ n > 64 by omega) ?_
  refine NewC_blk (fun b w3 hb h3 f3 s3 => ?_)
  exact ⟨b, rfl, ⟨h3, World.ownsRow_nil _ _ _ _, ⟨h0, h1⟩, (show (0 : Int) ≤ n by omega)⟩, f3, hb, s3⟩
theorem roots_Len_spec {b : Nat} {v : Value} {bound : Int} {l : List Int} (w : World) (h : IsStack w b v bound l) : CallC Pr f_roots_Stack_Len [.pointer (some ⟨b, 0, none⟩)] w (fun v w' => v = .int .i64 l.length ∧ Fr No w w') := by
  obtain ⟨a, c, rfl⟩ := h.row
  refine call_sound T_ok fun_roots_Stack_Len rfl (by kernel_rfl) rfl (Kp ?_)
  refine LdC_blk h.tab rfl ?_
  exact ⟨rfl, Fr.refl _ _⟩
theorem roots_Room_spec {b : Nat} {v : Value} {bound : Int} {l : List Int} (w : World) (h : IsStack w b v bound l) : CallC Pr f_roots_Stack_Room [.pointer (some ⟨b, 0, none⟩)] w (fun v w' => v = .int .i64 (bound - l.length) ∧ Fr No w w') := by
  obtain ⟨a, c, rfl⟩ := h.row
  have b0 := h.b0
  have n0 := h.n0
  refine call_sound T_ok fun_roots_Stack_Room rfl (by kernel_rfl) rfl (Kp ?_)
  refine AnyC_lex T_ok mixed (by kernel_rfl) (by kernel_rfl) ?_
  refine LdS_blk h.tab rfl ?_
  refine LdS_blk h.tab rfl ?_
  exact ⟨congrArg (Value.int .i64) (wrap_i64 (by omega) (by omega)), Fr.drew _⟩
theorem roots_Push_full {b : Nat} {v : Value} {bound : Int} {l : List Int} (x : Int) (w : World) (h : IsStack w b v bound l) (hn : (l.length : Int) = bound) :
    CallC Pr f_roots_Stack_Push [.pointer (some ⟨b, 0, none⟩), .int .u64 x] w (fun v w' => v = .int .i64 15 ∧ Fr No w w') := by
  refine call_sound T_ok fun_roots_Stack_Push rfl (by kernel_rfl) rfl (Kp ?_)
  refine CallC_intro (roots_Room_spec w h) (fun v w1 ⟨hv, f1⟩ => ?_)
  subst hv
  refine Br_dt (show bound - (l.length : Int) = 0 by omega) ?_
  exact ⟨rfl, f1⟩
theorem roots_Push_spec {b : Nat} {v : Value} {bound : Int} {l : List Int} (x : Int) (w : World) (h : IsStack w b v bound l) (hn : (l.length : Int) < bound) :
    CallC Pr f_roots_Stack_Push [.pointer (some ⟨b, 0, none⟩), .int .u64 x] w
      (fun u w' => u = .int .i64 0 ∧ ∃ v', IsStack w' b v' bound (l ++ [x]) ∧ (v'.ownBlock = v.ownBlock ∨ ∃ k, v'.ownBlock = some k ∧ w.heap.size ≤ k) ∧ Fr (fun k => k = b ∨ v.ownBlock = some k) w w') := by
  have b0 := h.b0
  refine call_sound T_ok fun_roots_Stack_Push rfl (by kernel_rfl) rfl (Kp ?_)
  refine CallC_intro (roots_Room_spec w h) (fun u w1 ⟨hv, f1⟩ => ?_)
  subst hv
  refine Br_df (show ¬ bound - (l.length : Int) = 0 by omega) ?_
  have h1 := h.keep f1 id (fun _ _ => id)
  refine LdC_blk h1.tab rfl ?_
  refine NewC_blk (fun p w2 hp h2 f2 _ => ?_)
  have h2' := h1.keep f2 id (fun _ _ => id)
  refine ApL T_ok (e := t_api_Ref) rfl rfl rfl (by decide) h2'.own (Nat.zero_le _) h2 (news := [.int .u64 x]) rfl rfl rfl (by omega) (show (l.length + 1) * 8 ≤ 140737488355328 by omega) (fun v' w3 o3 f3 l3 => ?_)
  have f12 := f1.no f2
  have s12 := f12.size
  have k3 : Fr (fun k => v.ownBlock = some k) w w3 := f12.noL f3
  refine own_slice o3 |>.elim fun a3 ⟨c3, e3⟩ => ?_
  subst e3
  refine StC_blk (h.tab.keep k3 h.ne) rfl rfl (fun w4 h4 f4 _ => ?_)
  refine ⟨rfl, _, ⟨h4, ?_, h.b0, by rw [List.length_append]; simp; omega⟩, ?_, k3.trans f4 (fun _ _ e => .inr e) (fun _ _ e => .inl e)⟩
  · have o4 := own_keepV o3 f4 (fun k hk e => ?_)
    · rw [List.length_append]
      have e : u64i (l ++ [x]) = u64i l ++ [.int .u64 x] := by simp [u64i]
      rw [e]; exact o4
    · have e : k = b := e
      subst e
      rcases l3 with e | e
      · rw [hk] at e; exact h.ne e.symm
      · rw [hk] at e
        injection e with e
        have := h.tab.lt
        have := f2.size
        omega
  · rcases l3 with e | e
    · exact .inl e
    · exact .inr ⟨_, e, s12⟩
end Go.Proofs.Ythmkimnpdnmahaa
