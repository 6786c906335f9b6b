/- Layer 8 (buffer): contracts. -/
import Derived.Test.YthmkimnpdnmahaaVcT
import Derived.Test.YthmkimnpdnmahaaVcI
namespace Go.Proofs.Ythmkimnpdnmahaa
open Go.Vc

/-- A buffer at o in the block b. -/
structure IsBuf (w : World) (b o : Nat) (cs : List Value) (x y : Int) : Prop where
  blk : Blk w b t_buffer_Buffer cs
  c0 : cs[o]? = some (.int .i64 x)
  c1 : cs[o + 1]? = some (.int .i64 y)
def bufSet (cs : List Value) (o : Nat) (x y : Int) : List Value := (cs.set o (.int .i64 x)).set (o + 1) (.int .i64 y)
section
variable {w w' : World} {b o : Nat} {cs : List Value} {x y : Int}
theorem IsBuf.keep {F : Nat → Prop} (h : IsBuf w b o cs x y) (f : Fr F w w') (hb : ¬ F b) : IsBuf w' b o cs x y := ⟨h.blk.keep f hb, h.c0, h.c1⟩
theorem bufSet_len : (bufSet cs o x y).length = cs.length := by simp [bufSet]
end
theorem buffer_New_spec (x y : Int) (w : World) (h0 : 0 ≤ x) (h1 : x < y) (h2 : y ≤ 4194304) : CallC Pr f_buffer_New [.int .i64 x, .int .i64 y] w (fun v w' => v = .tuple #[.agg #[.int .i64 x, .int .i64 y], .int .i64 0] ∧ Fr No w w') := by
  refine call_sound T_ok fun_buffer_New rfl (by kernel_rfl) rfl (Kp ?_)
  refine NewC_blk (fun b w1 hb h1' f1 _ => ?_)
  refine Br_df (show ¬ x < 0 by omega) ?_
  refine Br_df (show ¬ y < x by omega) ?_
  refine Br_df (show ¬ y > 4194304 by omega) ?_
  refine Br_df (show ¬ x = y by omega) ?_
  refine StN_blk (vs := [.int .i64 x, .int .i64 y]) h1' rfl (Nat.le_refl 2) (fun w2 h2 f2 _ => ?_)
  have h2 : Blk w2 b t_buffer_Buffer [.int .i64 x, .int .i64 y] := h2
  refine LdN_blk (vs := [.int .i64 x, .int .i64 y]) h2 rfl rfl ?_
  exact ⟨rfl, f1.new f2 (fun _ _ e => e) (fun k e => by omega)⟩
theorem Rest_nil (w : World) : CallC Pr f_buffer_Buffer_Rest [.pointer none] w (fun v w' => v = .tuple #[.int .i64 0, .int .i64 0] ∧ Fr No w w') := by
  refine call_sound T_ok fun_buffer_Buffer_Rest rfl (by kernel_rfl) rfl (Kp ?_)
  exact ⟨rfl, Fr.refl _ _⟩
theorem Rest_spec {b o : Nat} {cs : List Value} {x y : Int} (w : World) (h : IsBuf w b o cs x y) : CallC Pr f_buffer_Buffer_Rest [.pointer (some ⟨b, o, none⟩)] w (fun v w' => v = .tuple #[.int .i64 x, .int .i64 y] ∧ Fr No w w') := by
  refine call_sound T_ok fun_buffer_Buffer_Rest rfl (by kernel_rfl) rfl (Kp ?_)
  refine AnyC_lex T_ok mixed (by kernel_rfl) (by kernel_rfl) ?_
  refine LdS_idx h.blk h.c0 ?_
  refine LdS_idx h.blk h.c1 ?_
  exact ⟨rfl, Fr.drew _⟩
theorem Left_spec {b o : Nat} {cs : List Value} {x y : Int} (w : World) (h : IsBuf w b o cs x y) : CallC Pr f_buffer_Buffer_Left [.pointer (some ⟨b, o, none⟩)] w (fun v w' => v = .int .i64 (IntKind.i64.wrap (y - x)) ∧ Fr No w w') := by
  refine call_sound T_ok fun_buffer_Buffer_Left rfl (by kernel_rfl) rfl (Kp ?_)
  refine CallC_intro (Rest_spec w h) (fun v w1 ⟨hv, f1⟩ => ?_)
  subst hv
  exact ⟨rfl, f1⟩
theorem Take_bad {b o : Nat} (n : Int) (w : World) (hn : n < 1) : CallC Pr f_buffer_Buffer_Take [.pointer (some ⟨b, o, none⟩), .int .i64 n] w (fun v w' => v = .tuple #[.int .i64 0, .int .i64 2] ∧ Fr No w w') := by
  refine call_sound T_ok fun_buffer_Buffer_Take rfl (by kernel_rfl) rfl (Kp ?_)
  refine Br_dt (show n < 1 from hn) ?_
  exact ⟨rfl, Fr.refl _ _⟩
theorem Take_full {b o : Nat} {cs : List Value} {x y : Int} (n : Int) (w : World) (h : IsBuf w b o cs x y) (hb : 0 ≤ x ∧ x ≤ 4194304 ∧ 0 ≤ y ∧ y ≤ 4194304) (hn : 1 ≤ n) (hf : y - x < n) :
    CallC Pr f_buffer_Buffer_Take [.pointer (some ⟨b, o, none⟩), .int .i64 n] w (fun v w' => v = .tuple #[.int .i64 0, .int .i64 6] ∧ Fr No w w') := by
  refine call_sound T_ok fun_buffer_Buffer_Take rfl (by kernel_rfl) rfl (Kp ?_)
  refine Br_df (show ¬ n < 1 by omega) ?_
  refine CallC_intro (Left_spec w h) (fun v w1 ⟨hv, f1⟩ => ?_)
  subst hv
  refine Br_dt (show n > IntKind.i64.wrap (y - x) by rw [wrap_i64 (by omega) (by omega)]; omega) ?_
  exact ⟨rfl, f1⟩
theorem Take_spec {b o : Nat} {cs : List Value} {x y : Int} (n : Int) (w : World) (h : IsBuf w b o cs x y) (hb : 0 ≤ x ∧ x ≤ 4194304 ∧ 0 ≤ y ∧ y ≤ 4194304) (hn : 1 ≤ n) (hf : n ≤ y - x) :
    CallC Pr f_buffer_Buffer_Take [.pointer (some ⟨b, o, none⟩), .int .i64 n] w (fun v w' => v = .tuple #[.int .i64 x, .int .i64 0] ∧ IsBuf w' b o (cs.set o (.int .i64 (x + n))) (x + n) y ∧ Fr (· = b) w w') := by
  refine call_sound T_ok fun_buffer_Buffer_Take rfl (by kernel_rfl) rfl (Kp ?_)
  refine Br_df (show ¬ n < 1 by omega) ?_
  refine CallC_intro (Left_spec w h) (fun v w1 ⟨hv, f1⟩ => ?_)
  subst hv
  refine Br_df (show ¬ n > IntKind.i64.wrap (y - x) by rw [wrap_i64 (by omega) (by omega)]; omega) ?_
  have h1 := h.keep f1 id
  have e : IntKind.i64.wrap (x + n) = x + n := wrap_i64 (by omega) (by omega)
  refine LdC_idx h1.blk h1.c0 ?_
  refine StC_idx h1.blk rfl h1.c0 (fun w2 h2 f2 _ => ?_)
  rw [e] at h2
  have ho : o < cs.length := (List.getElem?_eq_some_iff.1 h.c0).1
  have c0' : (cs.set o (.int .i64 (x + n)))[o]? = some (.int .i64 (x + n)) := List.getElem?_set_self ho
  refine LdC_idx h2 c0' ?_
  have e2 : IntKind.i64.wrap (x + n - n) = x := by rw [wrap_i64 (by omega) (by omega)]; omega
  refine ⟨congrArg (fun z => Value.tuple #[.int .i64 z, .int .i64 0]) e2, ⟨h2, c0', ?_⟩, f1.noL f2⟩
  rw [List.getElem?_set_ne (by omega)]; exact h.c1
theorem buf_Drop_spec {b o : Nat} {cs : List Value} {x y : Int} (w : World) (h : IsBuf w b o cs x y) :
    CallC Pr f_buffer_Buffer_Drop [.pointer (some ⟨b, o, none⟩)] w (fun v w' => v = .tuple #[.int .i64 x, .int .i64 y] ∧ IsBuf w' b o (bufSet cs o 0 0) 0 0 ∧ Fr (· = b) w w') := by
  refine call_sound T_ok fun_buffer_Buffer_Drop rfl (by kernel_rfl) rfl (Kp ?_)
  refine CallC_intro (Rest_spec w h) (fun v w1 ⟨hv, f1⟩ => ?_)
  subst hv
  have h1 := h.keep f1 id
  have ho : o + 1 < cs.length := (List.getElem?_eq_some_iff.1 h.c1).1
  refine StN_blk (vs := [.int .i64 0, .int .i64 0]) h1.blk rfl (show o + 2 ≤ cs.length by omega) (fun w2 h2 f2 _ => ?_)
  refine ⟨rfl, ⟨h2, ?_, ?_⟩, f1.noL f2⟩
  · show (bufSet cs o 0 0)[o]? = _
    unfold bufSet
    rw [List.getElem?_set_ne (by omega), List.getElem?_set_self (by omega)]
  · show (bufSet cs o 0 0)[o + 1]? = _
    unfold bufSet
    rw [List.getElem?_set_self (by rw [List.length_set]; omega)]
end Go.Proofs.Ythmkimnpdnmahaa
