/- Layer 15 (mutate): New. -/
import Derived.Test.YthmkimnpdnmahaaMut1
namespace Go.Proofs.Ythmkimnpdnmahaa
open Go.Vc

def heapP (hb : Nat) : Value := ptr hb
theorem mutate_New_nilH (t : Int) (sv : Value) (w : World) (hs : ∃ o, sv = .pointer o) : CallC Pr f_mutate_New [.pointer none, .int .i64 t, sv] w (fun r w' => r = .tuple #[.pointer none, .int .i64 1] ∧ Fr No w w') := by
  obtain ⟨o, rfl⟩ := hs
  refine call_sound T_ok fun_mutate_New rfl (by kernel_rfl) rfl (Kp ?_)
  exact ⟨rfl, Fr.refl _ _⟩
theorem mutate_New_nilS (t : Int) (hb : Nat) (w : World) : CallC Pr f_mutate_New [ptr hb, .int .i64 t, .pointer none] w (fun r w' => r = .tuple #[.pointer none, .int .i64 1] ∧ Fr No w w') := by
  refine call_sound T_ok fun_mutate_New rfl (by kernel_rfl) rfl (Kp ?_)
  exact ⟨rfl, Fr.refl _ _⟩
theorem mutate_New_range {c : Cfg} {p : HP} {hb sh : Nat} {z : Nat → Nat} {s : HS} {mk : Value} {oa : Option Addr} {oc : Nat} (t : Int) (w : World) (h : HeapAt w z c hb p s) (hs : Blk w sh t_mutate_Shared [mk, .slice oa p.bs.length oc]) (ht : ¬ (0 ≤ t ∧ t < (p.bs.length : Int))) :
    CallC Pr f_mutate_New [ptr hb, .int .i64 t, ptr sh] w (fun r w' => r = .tuple #[.pointer none, .int .i64 2] ∧ Fr No w w') := by
  obtain ⟨ra, rc, hr⟩ := own_slice h.rootr
  have hT : Blk w hb t_heap_Heap (cfgL c ++ geoC c ++ [ptr p.ab, ptr p.rb, ptr p.ob, ptr p.cb, ptr p.qb, ptr p.sb, ptr p.mb, .slice ra p.bs.length rc, .slice (some ⟨p.bf, 0, none⟩) c.c3.toNat c.c3.toNat]) := by
    have := h.tab; unfold heapL at this; rw [hr] at this; exact this
  refine call_sound T_ok fun_mutate_New rfl (by kernel_rfl) rfl (Kp ?_)
  refine AnyC_lex T_ok mixed (by kernel_rfl) (by kernel_rfl) (Kp ?_)
  refine Br_dec (fun g => ?_) (fun g => ?_)
  · exact ⟨rfl, Fr.drew _⟩
  · have g : ¬ t < 0 := g
    refine LdS_blk hT rfl ?_
    refine Br_dt (show t ≥ (p.bs.length : Int) by omega) ?_
    exact ⟨rfl, Fr.drew _⟩
theorem mutate_New_spec {c : Cfg} {p : HP} {hb sh : Nat} {z : Nat → Nat} {s : HS} {mk : Value} {oa : Option Addr} {oc : Nat} (t : Int) (w : World) (h : HeapAt w z c hb p s) (hs : Blk w sh t_mutate_Shared [mk, .slice oa p.bs.length oc]) (ht : 0 ≤ t ∧ t < (p.bs.length : Int)) :
    CallC Pr f_mutate_New [ptr hb, .int .i64 t, ptr sh] w (fun r w' => ∃ mb, r = .tuple #[ptr mb, .int .i64 0] ∧ Blk w' mb t_mutate_Mutator (mutL hb sh t newM) ∧ Fr No w w' ∧ mb = w.heap.size ∧ w'.heap.size = mb + 1) := by
  obtain ⟨ra, rc, hr⟩ := own_slice h.rootr
  have hT : Blk w hb t_heap_Heap (cfgL c ++ geoC c ++ [ptr p.ab, ptr p.rb, ptr p.ob, ptr p.cb, ptr p.qb, ptr p.sb, ptr p.mb, .slice ra p.bs.length rc, .slice (some ⟨p.bf, 0, none⟩) c.c3.toNat c.c3.toNat]) := by
    have := h.tab; unfold heapL at this; rw [hr] at this; exact this
  refine call_sound T_ok fun_mutate_New rfl (by kernel_rfl) rfl (Kp ?_)
  refine AnyC_lex T_ok mixed (by kernel_rfl) (by kernel_rfl) (Kp ?_)
  refine Br_df (show ¬ t < 0 by omega) ?_
  refine LdS_blk hT rfl ?_
  refine Br_df (show ¬ t ≥ (p.bs.length : Int) by omega) ?_
  refine LdS_blk hs rfl ?_
  refine LdS_blk hT rfl ?_
  refine Br_nf rfl ?_
  refine NewC_blk (fun mb w1 hmb h1 f1 s1 => ?_)
  exact ⟨mb, rfl, h1, (Fr.drew w).no f1, hmb, s1⟩
end Go.Proofs.Ythmkimnpdnmahaa
