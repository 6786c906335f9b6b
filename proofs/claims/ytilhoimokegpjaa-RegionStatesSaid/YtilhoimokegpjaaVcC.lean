/- The rules of VcA hold: all operations that only compute, in one law. -/
import Derived.Test.YtilhoimokegpjaaVcB
namespace Go.Vc
section
variable {P : Program} {T : Tab} {n : Nat} {ρ : Env} {a : Act}

theorem mapM_struct (hT : T.Ok P) : ∀ (gs : List Field), (∀ g ∈ gs, ∃ q, look T.recs g.type = some q) → ∀ (w : World),
    (gs.mapM (m := Sem) fun f => do pure (f.offset, ← sizeOf f.type)).run P w = .ok (gs.map fun f => (f.offset, match look T.recs f.type with | some q => q.size | none => 0)) w := by
  intro gs
  induction gs with
  | nil => intro _ w; rfl
  | cons g gs ih =>
    intro h w
    obtain ⟨q, hq⟩ := h g List.mem_cons_self
    have := ih (fun g hg => h g (List.mem_cons_of_mem _ hg))
    simp only [List.mapM_cons, Sem.run_bind, look_size hT hq, Result.andThen_ok, Sem.run_pure, this, List.map_cons, hq]

theorem known_mem {recs : List (Nat × Rec)} : ∀ {fs : List (Nat × Nat)}, known recs fs = true → ∀ {t off : Nat}, (t, off) ∈ fs → ∃ q, look recs t = some q := by
  intro fs
  induction fs with
  | nil => intro _ t off h; cases h
  | cons p fs ih =>
    intro h t off hm
    obtain ⟨u, o⟩ := p
    simp only [known] at h
    cases hl : look recs u with
    | none => rw [hl] at h; cases h
    | some q =>
      rw [hl] at h
      rcases List.mem_cons.1 hm with e | e
      · injection e with e1 e2; subst e1; exact ⟨q, hl⟩
      · exact ih h e
theorem mapM_arr (gs : Array Field) (f : Field → Sem (Nat × Nat)) (l : List (Nat × Nat)) (w : World) (h : (gs.toList.mapM f).run P w = .ok l w) : (gs.mapM f).run P w = .ok l.toArray w := by
  rw [Array.mapM_eq_mapM_toList, Sem.run_map, h]; rfl

theorem pure_sound (hT : T.Ok P) (hρ : ρ.Ok n a) {o : Oper} {K : Value → Prop} (hp : isPure T o.op = true) (h : pureVC T ρ o.op K) :
    ∃ v, K v ∧ ∀ w, (execOp a.eval o).run P w = .ok (.value v) w := by
  obtain ⟨dst, op, type, pos, after, guard⟩ := o
  simp only at hp h
  cases op with
  | move x => obtain ⟨v, hv, hk⟩ := W_some h; exact ⟨v, hk, fun w => by simp [execOp, hρ.ev hv]⟩
  | assign x => obtain ⟨v, hv, hk⟩ := W_some h; exact ⟨v, hk, fun w => by simp [execOp, hρ.ev hv]⟩
  | pick c x y =>
    simp only [pureVC] at h
    split at h
    · rename_i b va vb h1 h2 h3
      cases b
      · exact ⟨vb, h, fun w => by simp [execOp, hρ.ev h1, hρ.ev h3, asBool]⟩
      · exact ⟨va, h, fun w => by simp [execOp, hρ.ev h1, hρ.ev h2, asBool]⟩
    · exact h.elim
  | nilCheck x =>
    simp only [pureVC] at h
    split at h
    · rename_i p h1
      cases p with
      | none => exact h.elim
      | some ad => exact ⟨_, h, fun w => by simp [execOp, hρ.ev h1]⟩
    · rename_i g x y h1; exact ⟨_, h, fun w => by simp [execOp, hρ.ev h1]⟩
    · rename_i t v h1; exact ⟨_, h, fun w => by simp [execOp, hρ.ev h1]⟩
    · exact h.elim
  | unOp op t x =>
    simp only [pureVC] at h
    split at h
    · rename_i b h1; exact ⟨_, h, fun w => by simp [execOp, hρ.ev h1, Op.unary]⟩
    · rename_i k m h1; exact ⟨_, h, fun w => by simp [execOp, hρ.ev h1, Op.unary, Op.intArith]⟩
    · rename_i k m h1; exact ⟨_, h, fun w => by simp [execOp, hρ.ev h1, Op.unary, Op.intBits, bits]⟩
    · exact h.elim
  | binOp op t x y u =>
    simp only [pureVC] at h
    split at h
    · rename_i va vb h1 h2
      obtain ⟨v, hv, hr⟩ := sound_binV hT h x y
      refine ⟨v, hv, fun w => ?_⟩
      simp only [execOp, hρ.ev h1, hρ.ev h2]
      rw [Sem.run_bind, hr w]
      rfl
    · exact h.elim
  | convert s t x =>
    simp only [pureVC] at h
    split at h
    · rename_i k k' m h1 h2
      simp only [isPure] at hp
      split at hp
      · rename_i ks kt hs ht
        have e2 := und_int hT h1
        have e1 := und_int hT hs
        exact ⟨_, h, fun w => by simp [execOp, hρ.ev h2, convert, run_underlying e1, run_underlying e2, Conv.intToInt]⟩
      · cases hp
    · exact h.elim
  | fieldAddr s x f =>
    simp only [pureVC] at h
    split at h
    · rename_i fs ad h1 h2
      split at h
      · rename_i t off h3
        split at h
        · rename_i q h4
          split at h
          · rename_i h5
            obtain ⟨gs, hu, hm⟩ := und_struct hT h1
            have hg : ∃ g, gs[f]? = some g ∧ g.type = t ∧ g.offset = off := by
              rw [← hm, List.getElem?_map] at h3
              cases hgg : gs.toList[f]? with
              | none => simp [hgg] at h3
              | some g => rw [hgg] at h3; simp at h3; exact ⟨g, by simpa using hgg, h3.1, h3.2⟩
            obtain ⟨g, hg1, hg2, hg3⟩ := hg
            have hne : q.size ≠ 0 := fun e => by rw [e] at h5; cases h5
            subst hg2; subst hg3
            exact ⟨_, h, fun w => by simp [execOp, hρ.ev h2, Instr.fieldAt, run_underlying hu, hg1, Instr.sureAddr, fieldPlace, look_size hT h4, hne]⟩
          · exact h.elim
        · exact h.elim
      · exact h.elim
    · exact h.elim
  | field s x f =>
    simp only [pureVC] at h
    split at h
    · rename_i fs cs h1 h2
      split at h
      · rename_i t off h3
        split at h
        · rename_i q h4
          obtain ⟨gs, hu, hm⟩ := und_struct hT h1
          have hg : ∃ g, gs[f]? = some g ∧ g.type = t ∧ g.offset = off := by
            rw [← hm, List.getElem?_map] at h3
            cases hgg : gs.toList[f]? with
            | none => simp [hgg] at h3
            | some g => rw [hgg] at h3; simp at h3; exact ⟨g, by simpa using hgg, h3.1, h3.2⟩
          obtain ⟨g, hg1, hg2, hg3⟩ := hg
          subst hg2; subst hg3
          have hagg := look_isAgg hT h4
          have hex : (cs.toList.drop g.offset).take q.size = (cs.extract g.offset (g.offset + q.size)).toList := by
            simp [Array.toList_extract, List.extract_eq_take_drop]
          cases hq : q.d.agg with
          | true =>
            rw [hq] at hagg h
            refine ⟨_, h, fun w => ?_⟩
            simp [execOp, hρ.ev h2, Instr.field, run_underlying hu, hg1, part, hagg, asAgg, look_size hT h4]
            rw [hex]
          | false =>
            rw [hq] at hagg h
            obtain ⟨v, hv, hk⟩ := W_some h
            refine ⟨v, hk, fun w => ?_⟩
            have hv' : cs[g.offset]? = some v := by simpa using hv
            simp [execOp, hρ.ev h2, Instr.field, run_underlying hu, hg1, part, hagg, asAgg, hv']
        · exact h.elim
      · exact h.elim
    · exact h.elim
  | indexAddr t x i =>
    simp only [pureVC] at h
    split at h
    · rename_i e A m c k j h1 h2 h3
      split at h
      · rename_i q h4
        cases A with
        | none => exact h.elim
        | some ad =>
          unfold Nn Sd at h
          obtain ⟨hb, hk⟩ := h
          refine ⟨_, hk, fun w => ?_⟩
          simp [execOp, hρ.ev h2, hρ.ev h3, Instr.indexAt, asIntOf, run_underlying (und_slice hT h1), hb, look_size hT h4]
      · exact h.elim
    · rename_i m e ad k j h1 h2 h3
      split at h
      · rename_i q h4
        unfold Sd at h
        obtain ⟨hb, hk⟩ := h
        refine ⟨_, hk, fun w => ?_⟩
        simp [execOp, hρ.ev h2, hρ.ev h3, Instr.indexAt, asIntOf, run_underlying (und_arr hT h1), hb, look_size hT h4, Instr.sureAddr]
      · exact h.elim
    · exact h.elim
  | build t parts =>
    simp only [pureVC] at h
    split at h
    · rename_i q h1
      split at h
      · rename_i fs h2
        split at h
        · rename_i ps h0 h3
          cases hall : ps.all (fun p => Nat.ble (p.1 + p.2.length) q.zero.length) with
          | false => rw [hall] at h; exact h.elim
          | true =>
          rw [hall] at h
          have hk := h
          have hd : T.d t = .struct fs := by rw [look_d h1, h2]
          obtain ⟨gs, hu, hm⟩ := und_struct hT hd
          obtain ⟨z, hz, hzr⟩ := look_zero hT h1
          refine ⟨_, hk, fun w => ?_⟩
          have hkn : ∀ g ∈ gs.toList, ∃ q, look T.recs g.type = some q := by
            intro g hg
            have : (g.type, g.offset) ∈ fs := by rw [← hm]; exact List.mem_map.2 ⟨g, hg, rfl⟩
            exact known_mem h0 this
          have hmm := mapM_struct hT gs.toList hkn w
          have hpl := partsL_ok hρ fs parts.toList ps h3 (fun i => ((gs.toList.map fun f => (f.offset, match look T.recs f.type with | some q => q.size | none => 0)))[i]?) (by
            intro i t off q hi hl
            rw [← hm, List.getElem?_map] at hi
            cases hgi : gs.toList[i]? with
            | none => simp [hgi] at hi
            | some g =>
              rw [hgi] at hi
              simp at hi
              simp [hgi, hi, hl])
          have hfill := fill_ok _ _ _ q.zero hpl hall
          have hpe : (parts.map fun (x : Nat × Operand) => match x with | (i, x) => (i, a.eval x)).toList = parts.toList.map fun p => (p.1, a.eval p.2) := by simp
          simp only [execOp, Instr.build, Sem.run_bind, hzr, Result.andThen_ok, run_underlying hu]
          rw [mapM_arr _ _ _ _ hmm]
          simp only [Result.andThen_ok]
          have hzz : z.cells = q.zero.toArray := by apply Array.toList_inj.1; simpa using hz
          rw [hzz, hpe]
          simp only [List.getElem?_toArray]
          rw [hfill]
          rfl
        · exact h.elim
      · exact h.elim
    · exact h.elim
  | extract x i =>
    simp only [pureVC] at h
    split at h
    · rename_i vs h1
      obtain ⟨v, hv, hk⟩ := W_some h
      have hv' : vs[i]? = some v := by simpa using hv
      exact ⟨v, hk, fun w => by simp [execOp, hρ.ev h1, Instr.extract, hv']⟩
    · exact h.elim
  | makeInterface t x =>
    simp only [pureVC] at h
    split at h
    · rename_i q v h1 h2
      obtain ⟨⟨d, hd, he⟩, _⟩ := hT.recs t q h1
      have : K (.iface t v) ∧ ∀ ms, d ≠ .interface ms := by
        rw [← he] at h
        cases d <;> simp [D.of] at h <;> simp [h]
      refine ⟨_, this.1, fun w => ?_⟩
      simp only [execOp, hρ.ev h2, Instr.makeInterface, Sem.run_bind, run_underlying hd, Result.andThen_ok]
      cases d <;> first | rfl | exact absurd rfl (this.2 _)
    · exact h.elim
  | makeFunc f first cap =>
    simp only [pureVC] at h
    split at h
    · rename_i x y h1 h2
      refine ⟨_, h, fun w => ?_⟩
      have e1 : first.map a.eval = x.toArray := Array.toList_inj.1 (by simpa using hρ.evs h1)
      have e2 : cap.map a.eval = y.toArray := Array.toList_inj.1 (by simpa using hρ.evs h2)
      simp [execOp, Instr.makeFunc, e1, e2]
    · exact h.elim
  | slice t x lo hi mx =>
    cases mx with
    | some m => exact h.elim
    | none =>
      simp only [pureVC] at h
      split at h
      · rename_i e A m c h1 h2
        split at h
        · rename_i q l hh h3 h4 h5
          unfold Sd at h
          obtain ⟨⟨b1, b2, b3⟩, hk⟩ := h
          refine ⟨_, hk, fun w => ?_⟩
          have hu := und_slice hT h1
          have key : (Instr.sliceBounds true m c (lo.map a.eval) (hi.map a.eval) none).run P w = .ok (l.toNat, hh.toNat, c) w := by
            have g1 : ∀ k code, (Instr.sliceBound (.int k hh) c code).run P w = .ok hh.toNat w := fun k code => sliceBound_ok ⟨by omega, b3⟩ w
            have g2 : ∀ k code, (Instr.sliceBound (.int k l) hh.toNat code).run P w = .ok l.toNat w := fun k code => sliceBound_ok ⟨b1, by omega⟩ w
            rcases optInt_ok hρ h5 with ⟨rfl, rfl⟩ | ⟨oh, kh, rfl, eh⟩ <;> rcases optInt_ok hρ h4 with ⟨rfl, rfl⟩ | ⟨ol, kl, rfl, el⟩
            · simp [Instr.sliceBounds]
            · have g3 : ∀ k code, (Instr.sliceBound (.int k l) m code).run P w = .ok l.toNat w := fun k code => sliceBound_ok ⟨b1, b2⟩ w
              simp [Instr.sliceBounds, el, g3]
            · simp [Instr.sliceBounds, eh, g1]
            · simp [Instr.sliceBounds, eh, el, g1, g2]
          simp only [execOp, hρ.ev h2, Instr.sliceAt, Sem.run_bind, run_underlying hu, Result.andThen_ok, Instr.slice, Option.map_none, key, look_size hT h3, Sem.run_pure]
          rfl
        · exact h.elim
      · exact h.elim
  | call c =>
    obtain ⟨callee, args, argTypes⟩ := c
    cases callee with
    | value f => cases hp
    | invoke r m => cases hp
    | builtin b =>
      simp only [pureVC] at h
      split at h
      · rename_i A m c h1
        have e1 : args.map a.eval = #[.slice A m c] := by
          have := hρ.evs h1
          apply Array.toList_inj.1
          simpa using this
        simp only [isPure] at hp
        split at hp
        · rename_i t ht
          split at hp
          · rename_i e hd
            have hty : argTypes = #[t] := by apply Array.toList_inj.1; simpa using ht
            subst hty
            refine ⟨_, h, fun w => ?_⟩
            simp [execOp, resolve, e1, invoke, builtin, Builtin.len_, run_underlying (und_slice hT hd), goInt]
          · cases hp
        · cases hp
      · rename_i k x r h1
        obtain ⟨v, hv, hk⟩ := W_some h
        have e1 : args.map a.eval = (Value.int k x :: r).toArray := by
          have := hρ.evs h1
          apply Array.toList_inj.1
          simpa using this
        refine ⟨v, hk, fun w => ?_⟩
        have := foldI_ok (P := P) (f := imin) (g := Builtin.min2) (by intro k x y w; unfold imin; simp [Builtin.min2]) r x v hv w
        simp [execOp, resolve, e1, invoke, builtin, Builtin.min_, this]
      · rename_i k x r h1
        obtain ⟨v, hv, hk⟩ := W_some h
        have e1 : args.map a.eval = (Value.int k x :: r).toArray := by
          have := hρ.evs h1
          apply Array.toList_inj.1
          simpa using this
        refine ⟨v, hk, fun w => ?_⟩
        have := foldI_ok (P := P) (f := imax) (g := Builtin.max2) (by intro k x y w; unfold imax; simp [Builtin.max2]) r x v hv w
        simp [execOp, resolve, e1, invoke, builtin, Builtin.max_, this]
      · exact h.elim
  | _ => cases hp
end
end Go.Vc
