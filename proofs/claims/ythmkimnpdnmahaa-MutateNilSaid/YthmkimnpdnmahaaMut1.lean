/- Layer 15 (mutate): a mutator's small steps. -/
import Derived.Test.YthmkimnpdnmahaaHeap2
namespace Go.Proofs.Ythmkimnpdnmahaa
open Go.Vc

structure Mu where
  done : Int
  phase : Int
  k : Int
  a : Int
  b : Int
  c : Int
  v : Int
  pos : Int
def mutL (hb sh : Nat) (t : Int) (m : Mu) : List Value := [ptr hb, ptr sh, .int .i64 t, .int .i64 m.done, .int .i64 m.phase, .int .i64 m.k, .int .i64 m.a, .int .i64 m.b, .int .i64 m.c, .int .u64 m.v, .int .i64 m.pos]
def newM : Mu := ⟨0, 0, 0, 0, 0, 0, 0, 0⟩
def opL (k a b c v : Int) : List Value := [.int .i64 k, .int .i64 a, .int .i64 b, .int .i64 c, .int .u64 v]
def ansL (t d e x : Int) (bit : Bool) : List Value := [.int .i64 t, .int .i64 d, .int .i64 e, .int .u64 x, .bool bit]
def ans0 : List Value := ansL 0 0 0 0 false
def resL (an : List Value) (d b w : Bool) (l : Value) : List Value := an ++ [.bool d, .bool b, .bool w, l]
def res0 : List Value := resL ans0 false false false (.slice none 0 0)
theorem Idle_nil (w : World) : CallC Pr f_mutate_Mutator_Idle [.pointer none] w (fun v w' => v = .bool false ∧ Fr No w w') := by
  refine call_sound T_ok fun_mutate_Mutator_Idle rfl (by kernel_rfl) rfl (Kp ?_)
  exact ⟨rfl, Fr.refl _ _⟩
theorem Idle_spec {mb hb sh : Nat} {t : Int} {m : Mu} (w : World) (h : Blk w mb t_mutate_Mutator (mutL hb sh t m)) : CallC Pr f_mutate_Mutator_Idle [ptr mb] w (fun v w' => v = .bool (decide (m.phase = 0)) ∧ Fr No w w') := by
  refine call_sound T_ok fun_mutate_Mutator_Idle rfl (by kernel_rfl) rfl (Kp ?_)
  refine LdC_blk h rfl ?_
  exact ⟨rfl, Fr.refl _ _⟩
theorem Start_nil (k a b c v : Int) (w : World) : CallC Pr f_mutate_Mutator_Start [.pointer none, .agg (opL k a b c v).toArray] w (fun r w' => r = .int .i64 1 ∧ Fr No w w') := by
  refine call_sound T_ok fun_mutate_Mutator_Start rfl (by kernel_rfl) rfl (Kp ?_)
  refine NewC_blk (fun p w1 hp h1 f1 _ => ?_)
  exact ⟨rfl, f1⟩
theorem Start_busy {mb hb sh : Nat} {t : Int} {m : Mu} (k a b c v : Int) (w : World) (h : Blk w mb t_mutate_Mutator (mutL hb sh t m)) (hp : m.phase ≠ 0) :
    CallC Pr f_mutate_Mutator_Start [ptr mb, .agg (opL k a b c v).toArray] w (fun r w' => r = .int .i64 3 ∧ Fr No w w') := by
  refine call_sound T_ok fun_mutate_Mutator_Start rfl (by kernel_rfl) rfl (Kp ?_)
  refine NewC_blk (fun p w1 _ h1 f1 _ => ?_)
  refine LdC_blk (h.keep f1 id) rfl ?_
  refine Br_nt hp ?_
  exact ⟨rfl, f1⟩
theorem Start_spec {mb hb sh : Nat} {t : Int} {m : Mu} (k a b c v : Int) (w : World) (h : Blk w mb t_mutate_Mutator (mutL hb sh t m)) (hp : m.phase = 0) :
    CallC Pr f_mutate_Mutator_Start [ptr mb, .agg (opL k a b c v).toArray] w
      (fun r w' => r = .int .i64 0 ∧ Blk w' mb t_mutate_Mutator (mutL hb sh t ⟨m.done, 1, k, a, b, c, v, m.pos⟩) ∧ Fr (· = mb) w w') := by
  refine call_sound T_ok fun_mutate_Mutator_Start rfl (by kernel_rfl) rfl (Kp ?_)
  refine NewC_blk (fun p w1 hp' h1 f1 _ => ?_)
  have h1 : Blk w1 p t_api_Op (opL k a b c v) := h1
  have hm := h.keep f1 id
  refine LdC_blk hm rfl ?_
  refine Br_nf hp ?_
  refine LdN_blk (vs := opL k a b c v) h1 rfl rfl ?_
  refine StN_blk hm rfl (Nat.le_of_ble_eq_true rfl) (fun w2 h2 f2 _ => ?_)
  have h2 : Blk w2 mb t_mutate_Mutator (mutL hb sh t ⟨m.done, m.phase, k, a, b, c, v, m.pos⟩) := h2
  refine StC_blk h2 rfl rfl (fun w3 h3 f3 _ => ?_)
  exact ⟨rfl, h3, f1.noL (f2.same f3)⟩
theorem Fail_nil (w : World) : CallC Pr f_mutate_Mutator_Fail [.pointer none] w (fun r w' => r = .tuple #[.agg ans0.toArray, .int .i64 1] ∧ Fr No w w') := by
  refine call_sound T_ok fun_mutate_Mutator_Fail rfl (by kernel_rfl) rfl (Kp ?_)
  refine NewC_blk (fun p w1 hp h1 f1 _ => ?_)
  refine StN_blk h1 rfl (Nat.le_of_ble_eq_true rfl) (fun w2 h2 f2 _ => ?_)
  have h2 : Blk w2 p t_api_Answer ans0 := h2
  refine LdN_blk (vs := ans0) h2 rfl rfl ?_
  exact ⟨rfl, f1.new f2 (fun _ _ e => e) (fun k e => by omega)⟩
theorem Fail_not {mb hb sh : Nat} {t : Int} {m : Mu} (w : World) (h : Blk w mb t_mutate_Mutator (mutL hb sh t m)) (hp : m.phase ≠ 6) :
    CallC Pr f_mutate_Mutator_Fail [ptr mb] w (fun r w' => r = .tuple #[.agg ans0.toArray, .int .i64 3] ∧ Fr No w w') := by
  refine call_sound T_ok fun_mutate_Mutator_Fail rfl (by kernel_rfl) rfl (Kp ?_)
  refine NewC_blk (fun p w1 hp' h1 f1 _ => ?_)
  refine LdC_blk (h.keep f1 id) rfl ?_
  refine Br_nt hp ?_
  refine StN_blk h1 rfl (Nat.le_of_ble_eq_true rfl) (fun w2 h2 f2 _ => ?_)
  have h2 : Blk w2 p t_api_Answer ans0 := h2
  refine LdN_blk (vs := ans0) h2 rfl rfl ?_
  exact ⟨rfl, f1.new f2 (fun _ _ e => e) (fun k e => by omega)⟩
theorem Step_nil (w : World) : CallC Pr f_mutate_Mutator_Step [.pointer none] w (fun r w' => r = .agg res0.toArray ∧ Fr No w w') := by
  refine call_sound T_ok fun_mutate_Mutator_Step rfl (by kernel_rfl) rfl (Kp ?_)
  refine NewC_blk (fun p w1 hp h1 f1 _ => ?_)
  refine StN_blk h1 rfl (Nat.le_of_ble_eq_true rfl) (fun w2 h2 f2 _ => ?_)
  have h2 : Blk w2 p t_mutate_Result res0 := h2
  refine LdN_blk (vs := res0) h2 rfl rfl ?_
  exact ⟨rfl, f1.new f2 (fun _ _ e => e) (fun k e => by omega)⟩
theorem answer_spec {mb hb sh : Nat} {t : Int} {m : Mu} (e x : Int) (bit : Bool) (w : World) (h : Blk w mb t_mutate_Mutator (mutL hb sh t m)) :
    CallC Pr f_mutate_Mutator_answer [ptr mb, .int .i64 e, .int .u64 x, .bool bit] w (fun r w' => r = .agg (resL (ansL t m.done e x bit) true false false (.slice none 0 0)).toArray ∧
      Blk w' mb t_mutate_Mutator (mutL hb sh t ⟨IntKind.i64.wrap (m.done + 1), 0, m.k, m.a, m.b, m.c, m.v, m.pos⟩) ∧ Fr (· = mb) w w') := by
  refine call_sound T_ok fun_mutate_Mutator_answer rfl (by kernel_rfl) rfl (Kp ?_)
  refine NewC_blk (fun p w1 hp h1 f1 s1 => ?_)
  have hl := h.lt
  have hm := h.keep f1 id
  refine AnyC_plan T_ok mixed (planO [0,1,2,3,4,5,6,7,8,9,10,11,1012,1013]) (Old w1.drew) (by kernel_rfl) (by kernel_rfl) (fun _ _ => rfl) (Kp ?_)
  have hm := hm.keep (Fr.drew w1) id
  refine LdS_blk hm rfl ?_
  refine LdS_blk hm rfl ?_
  refine ⟨?_, trivial⟩
  refine NewC_blk (fun q w2 hq h2 f2 s2 => ?_)
  refine Sd_intro f2.old ?_
  refine ⟨?_, trivial⟩
  refine StN_blk h2 rfl (Nat.le_of_ble_eq_true rfl) (fun w3 h3 f3 s3 => ?_)
  have h3 : Blk w3 q t_api_Answer (ansL t m.done e x bit) := h3
  have f23 : Fr No w1.drew w3 := f2.new f3 (fun _ _ e => e) (fun k e => by omega)
  refine Sd_intro f23.old ?_
  have hm := hm.keep f23 id
  refine LdC_blk hm rfl ?_
  refine StC_blk hm rfl rfl (fun w4 h4 f4 s4 => ?_)
  have h4 : Blk w4 mb t_mutate_Mutator (mutL hb sh t ⟨IntKind.i64.wrap (m.done + 1), m.phase, m.k, m.a, m.b, m.c, m.v, m.pos⟩) := h4
  refine StC_blk h4 rfl rfl (fun w5 h5 f5 s5 => ?_)
  have sd : w1.drew.heap.size = w1.heap.size := rfl
  have f45 := f4.same f5
  have np : p ≠ mb := by omega
  have nq : q ≠ mb := by omega
  have h3 := h3.keep f45 nq
  have F15 : Fr (· = mb) w w5 := (f1.no ((Fr.drew w1).no f23)).noL f45
  refine LdN_blk (vs := ansL t m.done e x bit) h3 rfl rfl ?_
  have hP : Blk w5 p t_mutate_Result res0 := (h1.keep ((Fr.drew w1).no f23) id).keep f45 np
  refine StN_blk hP rfl (Nat.le_of_ble_eq_true rfl) (fun w6 h6 f6 s6 => ?_)
  have h6 : Blk w6 p t_mutate_Result (resL (ansL t m.done e x bit) true false false (.slice none 0 0)) := h6
  refine LdN_blk (vs := resL (ansL t m.done e x bit) true false false (.slice none 0 0)) h6 rfl rfl ?_
  exact ⟨rfl, h5.keep f6 np.symm, F15.new f6 (fun _ _ e => e) (fun k e => by omega)⟩
theorem on_spec {mb hb sh : Nat} {t : Int} {m : Mu} (ph : Int) (w : World) (h : Blk w mb t_mutate_Mutator (mutL hb sh t m)) :
    CallC Pr f_mutate_Mutator_on [ptr mb, .int .i64 ph] w (fun r w' => r = .agg (resL ans0 false true false (.slice none 0 0)).toArray ∧ Blk w' mb t_mutate_Mutator (mutL hb sh t ⟨m.done, ph, m.k, m.a, m.b, m.c, m.v, m.pos⟩) ∧ Fr (· = mb) w w') := by
  refine call_sound T_ok fun_mutate_Mutator_on rfl (by kernel_rfl) rfl (Kp ?_)
  refine NewC_blk (fun p w1 hp h1 f1 s1 => ?_)
  have hl := h.lt
  have h1 : Blk w1 p t_mutate_Result res0 := h1
  refine StC_blk (h.keep f1 id) rfl rfl (fun w2 h2 f2 s2 => ?_)
  have np : p ≠ mb := by omega
  have h1 := h1.keep f2 np
  refine StN_blk h1 rfl (Nat.le_of_ble_eq_true rfl) (fun w3 h3 f3 s3 => ?_)
  have h3 : Blk w3 p t_mutate_Result (resL ans0 false true false (.slice none 0 0)) := h3
  refine LdN_blk (vs := resL ans0 false true false (.slice none 0 0)) h3 rfl rfl ?_
  exact ⟨rfl, h2.keep f3 np.symm, (f1.noL f2).new f3 (fun _ _ e => e) (fun k e => by omega)⟩
end Go.Proofs.Ythmkimnpdnmahaa
