/- What a Go function's code comes to, as one formula over its operands and its memory: the rules by which it is read off the code. -/
import Derived.Orders
import Derived.Tactics
import Derived.Laws.Entries
import Derived.Laws.Slices
import Derived.Below
import Derived.Deep.LoopGhost
import Derived.OrdersHeld
namespace Go.Vc

/- The types' table, in short. -/
inductive D where
  | bool | int (k : IntKind) | str | ptr (e : Nat) | slice (e : Nat) | arr (n e : Nat) | map (k e : Nat) | struct (fs : List (Nat × Nat)) | func | iface | other
def D.of : TypeDesc → D
  | .bool => .bool | .int k => .int k | .string => .str | .pointer e => .ptr e | .slice e => .slice e | .array n e => .arr n e | .map k e => .map k e
  | .struct fs => .struct (fs.toList.map fun f => (f.type, f.offset)) | .func _ _ _ => .func | .interface _ => .iface | _ => .other
def D.agg : D → Bool | .struct _ => true | .arr _ _ => true | _ => false
structure Rec where
  d : D
  size : Nat
  bytes : Nat
  zero : List Value
structure Tab where
  recs : List (Nat × Rec)
  fns : List Nat
noncomputable def look {α : Type} (l : List (Nat × α)) (t : Nat) : Option α :=
  List.rec (motive := fun _ => Option α) none (fun x _ ih => Bool.rec ih (some x.2) (Nat.beq x.1 t)) l
theorem look_nil {α : Type} {t : Nat} : look ([] : List (Nat × α)) t = none := rfl
theorem look_eq {α : Type} {u : Nat} {v : α} {r : List (Nat × α)} {t : Nat} : look ((u, v) :: r) t = match Nat.beq u t with | true => some v | false => look r t := by
  show (Bool.rec (look r t) (some v) (Nat.beq u t) : Option α) = _
  cases Nat.beq u t <;> rfl
noncomputable def has (l : List Nat) (t : Nat) : Bool :=
  List.rec (motive := fun _ => Bool) false (fun u _ ih => Bool.rec ih true (Nat.beq u t)) l
theorem has_eq {u : Nat} {r : List Nat} {t : Nat} : has (u :: r) t = match Nat.beq u t with | true => true | false => has r t := by
  show (Bool.rec (has r t) true (Nat.beq u t) : Bool) = _
  cases Nat.beq u t <;> rfl
def Rec.Ok (P : Program) (t : Nat) (r : Rec) : Prop :=
  (∃ d, P.underlying t = some d ∧ D.of d = r.d) ∧ ∃ i z, P.info? t = some i ∧ i.size = r.size ∧ i.bytes = r.bytes ∧ i.zero = some z ∧ z.cells.toList = r.zero
def FnOk (P : Program) (f : Nat) : Prop := ∃ fn, P.funcs[f]? = some fn ∧ (fn.name == "runtime.NumGoroutine") = false ∧ fn.body.isNone = false
structure Tab.Ok (P : Program) (T : Tab) : Prop where
  recs : ∀ t r, look T.recs t = some r → r.Ok P t
  fns : ∀ f, has T.fns f = true → FnOk P f
noncomputable def Tab.d (T : Tab) (t : Nat) : D := match look T.recs t with | some r => r.d | none => .other

theorem look_mem {α : Type} {l : List (Nat × α)} {t : Nat} {v : α} (h : look l t = some v) : (t, v) ∈ l := by
  induction l with
  | nil => cases h
  | cons x l ih =>
    obtain ⟨u, y⟩ := x
    simp only [look_eq] at h
    cases hb : Nat.beq u t with
    | true => rw [hb] at h; have := Nat.eq_of_beq_eq_true hb; subst this; simp at h; subst h; exact List.mem_cons_self
    | false => rw [hb] at h; exact List.mem_cons_of_mem _ (ih h)
theorem has_mem {l : List Nat} {t : Nat} (h : has l t = true) : t ∈ l := by
  induction l with
  | nil => cases h
  | cons u l ih =>
    simp only [has_eq] at h
    cases hb : Nat.beq u t with
    | true => have := Nat.eq_of_beq_eq_true hb; subst this; exact List.mem_cons_self
    | false => rw [hb] at h; exact List.mem_cons_of_mem _ (ih h)
theorem Tab.Ok.mk' {P : Program} {T : Tab} (h1 : ∀ x ∈ T.recs, x.2.Ok P x.1) (h2 : ∀ f ∈ T.fns, FnOk P f) : T.Ok P :=
  ⟨fun t r h => h1 (t, r) (look_mem h), fun f h => h2 f (has_mem h)⟩

/- What is known of a frame's variables. -/
abbrev Env := List (Nat × Value)
def Env.put (ρ : Env) : Option Nat → Value → Env
  | some d, v => (d, v) :: ρ
  | none, _ => ρ
structure Env.Ok (n : Nat) (ρ : Env) (a : Act) : Prop where
  size : a.tmps.size = n
  defers : a.defers = []
  get : ∀ t v, look ρ t = some v → a.tmps[t]? = some v
noncomputable def ev (ρ : Env) : Operand → Option Value
  | .tmp t => look ρ t
  | .const v => some v
  | .global g => some (.pointer (some ⟨g, 0, none⟩))
  | .func f => some (.func (.func f) #[] #[])
noncomputable def evs (ρ : Env) : List Operand → Option (List Value)
  | [] => some []
  | x :: r => match ev ρ x, evs ρ r with | some v, some vs => some (v :: vs) | _, _ => none

theorem Env.Ok.ev {n : Nat} {ρ : Env} {a : Act} (h : ρ.Ok n a) {x : Operand} {v : Value} (hx : ev ρ x = some v) : a.eval x = v := by
  cases x with
  | tmp t => have := h.get t v hx; simp [Act.eval, this]
  | const u => simpa [Vc.ev, Act.eval] using hx
  | global g => simpa [Vc.ev, Act.eval] using hx
  | func f => simpa [Vc.ev, Act.eval] using hx
theorem Env.Ok.evs {n : Nat} {ρ : Env} {a : Act} (h : ρ.Ok n a) {xs : List Operand} {vs : List Value} (hx : evs ρ xs = some vs) : xs.map a.eval = vs := by
  induction xs generalizing vs with
  | nil => simpa [Vc.evs] using hx
  | cons x xs ih =>
    simp only [Vc.evs] at hx
    cases h1 : Vc.ev ρ x with
    | none => simp [h1] at hx
    | some v =>
      cases h2 : Vc.evs ρ xs with
      | none => simp [h1, h2] at hx
      | some ws => simp [h1, h2] at hx; subst hx; simp [h.ev h1, ih h2]
theorem Env.Ok.put {n : Nat} {ρ : Env} {a : Act} (h : ρ.Ok n a) {dst : Option Nat} (hd : ∀ d, dst = some d → d < n) (v : Value) : (ρ.put dst v).Ok n (a.put dst v) := by
  cases dst with
  | none => exact h
  | some d =>
    refine ⟨by simp [Act.put, h.size], h.defers, fun t u ht => ?_⟩
    simp only [Env.put, look_eq] at ht
    cases hb : Nat.beq d t with
    | true =>
      rw [hb] at ht
      have := Nat.eq_of_beq_eq_true hb; subst this
      simp at ht; subst ht
      have hlt : d < a.tmps.size := by rw [h.size]; exact hd d rfl
      simp [Act.put, hlt]
    | false =>
      rw [hb] at ht
      have hne : d ≠ t := fun e => by subst e; simp at hb
      simp only [Act.put, Array.getElem?_setIfInBounds_ne hne]
      exact h.get t u ht
/-- A literal in a known place. -/
theorem Env.Ok.same {n : Nat} {ρ : Env} {a : Act} (h : ρ.Ok n a) {t : Nat} {v : Value} (ht : look ρ t = some v) : Env.Ok n ((t, v) :: ρ) a := by
  refine ⟨h.size, h.defers, fun u x hu => ?_⟩
  simp only [look_eq] at hu
  cases hb : Nat.beq t u with
  | true => rw [hb] at hu; have := Nat.eq_of_beq_eq_true hb; subst this; simp at hu; subst hu; exact h.get _ _ ht
  | false => rw [hb] at hu; exact h.get _ _ hu
def Sub : Env → Env → Prop
  | [], _ => True
  | (t, v) :: r, ρ => look ρ t = some v ∧ Sub r ρ
theorem Sub.look {ρ σ : Env} (h : Sub ρ σ) {t : Nat} {v : Value} (ht : look ρ t = some v) : look σ t = some v := by
  induction ρ with
  | nil => cases ht
  | cons x ρ ih =>
    obtain ⟨u, y⟩ := x
    simp only [look_eq] at ht
    cases hb : Nat.beq u t with
    | true => rw [hb] at ht; have := Nat.eq_of_beq_eq_true hb; subst this; simp at ht; subst ht; exact h.1
    | false => rw [hb] at ht; exact ih h.2 ht
theorem Env.Ok.sub {n : Nat} {ρ σ : Env} {a : Act} (h : σ.Ok n a) (hs : Sub ρ σ) : ρ.Ok n a := ⟨h.size, h.defers, fun t v ht => h.get t v (hs.look ht)⟩

/- The formula's words. -/
def Br (b : Bool) (x y : Prop) : Prop := @Bool.rec (fun _ => Prop) y x b
/- The rules speak of the bare recursor: two words of one name would be held against one another again and again. -/
theorem Br_intro {b : Bool} {x y : Prop} (h1 : b = true → x) (h2 : b = false → y) : @Bool.rec (fun _ => Prop) y x b := by cases b; exact h2 rfl; exact h1 rfl
theorem Br_t {b : Bool} {x y : Prop} (hb : b = true) (h : x) : @Bool.rec (fun _ => Prop) y x b := by subst hb; exact h
theorem Br_f {b : Bool} {x y : Prop} (hb : b = false) (h : y) : @Bool.rec (fun _ => Prop) y x b := by subst hb; exact h
theorem Br_dt {c : Prop} [Decidable c] {x y : Prop} (hb : c) (h : x) : @Bool.rec (fun _ => Prop) y x (decide c) := Br_t (decide_eq_true hb) h
theorem Br_df {c : Prop} [Decidable c] {x y : Prop} (hb : ¬ c) (h : y) : @Bool.rec (fun _ => Prop) y x (decide c) := Br_f (decide_eq_false hb) h
theorem Br_nt {c x y : Prop} [Decidable c] (h : ¬ c) (k : x) : @Bool.rec (fun _ => Prop) y x (!decide c) := Br_t (by rw [decide_eq_false h]; rfl) k
theorem Br_nf {c x y : Prop} [Decidable c] (h : c) (k : y) : @Bool.rec (fun _ => Prop) y x (!decide c) := Br_f (by rw [decide_eq_true h]; rfl) k
theorem Br_ndec {c x y : Prop} [Decidable c] (t : ¬ c → x) (f : c → y) : @Bool.rec (fun _ => Prop) y x (!decide c) := by
  by_cases h : c
  · exact Br_nf h (f h)
  · exact Br_nt h (t h)
theorem Br_dec {c : Prop} [Decidable c] {x y : Prop} (h1 : c → x) (h2 : ¬ c → y) : @Bool.rec (fun _ => Prop) y x (decide c) := Br_intro (fun h => h1 (of_decide_eq_true h)) (fun h => h2 (of_decide_eq_false h))
def Nn (p : Option Addr) (K : Addr → Prop) : Prop := match p with | some ad => K ad | none => False
/-- A side condition, then the rest. -/
def Sd (c : Prop) (K : Prop) : Prop := c ∧ K
theorem Sd_intro {c K : Prop} (h : c) (k : K) : Sd c K := ⟨h, k⟩
attribute [irreducible] Sd
def W (o : Option Value) (K : Value → Prop) : Prop := match o with | some v => K v | none => False
def bits (op : BinOp) (k : IntKind) (x y : Int) : Int :=
  let a := BitVec.ofInt k.bits x
  let b := BitVec.ofInt k.bits y
  k.wrap (match op with | .and => (a &&& b).toNat | .or => (a ||| b).toNat | .xor => (a ^^^ b).toNat | _ => (a &&& ~~~b).toNat)
attribute [irreducible] bits
def shiftV (op : BinOp) (k : IntKind) (x : Int) (n : Nat) : Int :=
  match op with
  | .shl => k.wrap (x * 2 ^ (min n k.bits))
  | _ => x.fdiv (2 ^ (min n k.bits))
attribute [irreducible] shiftV
def intOp (op : BinOp) (k : IntKind) (x y : Int) (K : Value → Prop) : Prop :=
  match op with
  | .add => K (.int k (k.wrap (x + y)))
  | .sub => K (.int k (k.wrap (x - y)))
  | .mul => K (.int k (k.wrap (x * y)))
  | .quo => Sd (y ≠ 0) (K (.int k (k.wrap (x.tdiv y))))
  | .rem => Sd (y ≠ 0) (K (.int k (x.tmod y)))
  | .and => K (.int k (bits .and k x y))
  | .or => K (.int k (bits .or k x y))
  | .xor => K (.int k (bits .xor k x y))
  | .andNot => K (.int k (bits .andNot k x y))
  | .eql => K (.bool (decide (x = y)))
  | .neq => K (.bool (!decide (x = y)))
  | .lss => K (.bool (decide (x < y)))
  | .leq => K (.bool (decide (x ≤ y)))
  | .gtr => K (.bool (decide (x > y)))
  | .geq => K (.bool (decide (x ≥ y)))
  | _ => False
def isShift : BinOp → Bool | .shl | .shr => true | _ => false
def kindEq (a b : IntKind) : Bool := Nat.beq a.ctorIdx b.ctorIdx
def binV (d : D) (op : BinOp) (x y : Value) (K : Value → Prop) : Prop :=
  match isShift op with
  | true => match x, y with
    | .int k a, .int _ b => Sd (0 ≤ b) (K (.int k (shiftV op k a b.toNat)))
    | _, _ => False
  | false => match x, y with
    | .int k a, .int k' b => match kindEq k k' with | true => intOp op k a b K | false => False
    | .bool a, .bool b => (match d, op with | .bool, .eql => K (.bool (a == b)) | .bool, .neq => K (.bool (!(a == b))) | _, _ => False)
    | .pointer a, .pointer none => (match d, op with | .ptr _, .eql => K (.bool a.isNone) | .ptr _, .neq => K (.bool (!a.isNone)) | _, _ => False)
    | .slice a _ _, .slice none _ _ => (match d, op with | .slice _, .eql => K (.bool a.isNone) | .slice _, .neq => K (.bool (!a.isNone)) | _, _ => False)
    | .map a, .map none => (match d, op with | .map _ _, .eql => K (.bool a.isNone) | .map _ _, .neq => K (.bool (!a.isNone)) | _, _ => False)
    | _, _ => False
def cellsL : Value → List Value
  | .agg cs => cs.toList
  | v => [v]
def fillL : List Value → List (Nat × List Value) → List Value
  | cs, [] => cs
  | cs, (off, vs) :: r => fillL (cs.take off ++ vs ++ cs.drop (off + vs.length)) r
def cutA (A : Option Addr) (c l size : Nat) : Option Addr := if c = l then A else A.map (·.add (l * size))
noncomputable def partsL (fs : List (Nat × Nat)) (recs : List (Nat × Rec)) (ρ : Env) : List (Nat × Operand) → Option (List (Nat × List Value))
  | [] => some []
  | (i, x) :: r => match fs[i]?, ev ρ x, partsL fs recs ρ r with
    | some (t, off), some v, some l => (match look recs t with
      | some q => (match Nat.beq (cellsL v).length q.size with | true => some ((off, cellsL v) :: l) | false => none)
      | none => none)
    | _, _, _ => none
noncomputable def known {α : Type} (recs : List (Nat × α)) : List (Nat × Nat) → Bool
  | [] => true
  | (t, _) :: r => match look recs t with | some _ => known recs r | none => false
def foldI (f : Int → Int → Int) (k : IntKind) : Int → List Value → Option Value
  | a, [] => some (.int k a)
  | a, .int k' b :: r => match kindEq k k' with | true => foldI f k (f a b) r | false => none
  | _, _ => none
def imax (x y : Int) : Int := if y > x then y else x
def imin (x y : Int) : Int := if y < x then y else x
theorem imax_eq (x y : Int) : imax x y = max x y := by unfold imax; omega
theorem imin_eq (x y : Int) : imin x y = min x y := by unfold imin; omega
attribute [irreducible] imax imin
noncomputable def optInt (ρ : Env) (d : Int) : Option Operand → Option Int
  | none => some d
  | some x => match ev ρ x with | some (.int _ n) => some n | _ => none

noncomputable def rowL (fs : List (Nat × Nat)) (size : Nat) (ρ : Env) : List (Nat × Operand) → Option (List (Nat × List Value))
  | [] => some []
  | (i, x) :: r => match ev ρ x, rowL fs size ρ r with
    | some v, some l => (match Nat.beq (cellsL v).length size with | true => some ((i * size, cellsL v) :: l) | false => none)
    | _, _ => none
/-- Operations that only compute. -/
noncomputable def isPure (T : Tab) : Op → Bool
  | .move _ | .assign _ | .pick .. | .nilCheck _ | .unOp .. | .build .. | .fieldAddr .. | .field .. | .indexAddr .. | .extract .. | .makeFunc .. | .makeInterface .. => true
  | .binOp _ t _ _ _ => (match T.d t with | .int _ | .bool | .ptr _ | .slice _ | .map _ _ => true | _ => false)
  | .convert s t _ => (match T.d s, T.d t with | .int _, .int _ => true | _, _ => false)
  | .slice t _ _ _ none => (match T.d t with | .slice _ => true | _ => false)
  | .call { callee := .builtin .len, args := _, argTypes } => (match argTypes.toList with | [t] => (match T.d t with | .slice _ => true | _ => false) | _ => false)
  | .call { callee := .builtin .min, args := _, argTypes } | .call { callee := .builtin .max, args := _, argTypes } => (match argTypes.toList with | t :: _ => (match T.d t with | .int _ => true | _ => false) | _ => false)
  | _ => false

noncomputable def pureVC (T : Tab) (ρ : Env) (op : Op) (K : Value → Prop) : Prop :=
  match op with
  | .move x | .assign x => W (ev ρ x) K
  | .pick c a b => (match ev ρ c, ev ρ a, ev ρ b with
    | some (.bool c), some va, some vb => Br c (K va) (K vb)
    | _, _, _ => False)
  | .nilCheck x => (match ev ρ x with
    | some (.pointer p) => Nn p fun ad => K (.pointer (some ad))
    | some (.func (.func g) a b) => K (.func (.func g) a b)
    | some (.iface t v) => K (.iface t v)
    | _ => False)
  | .unOp op _ x => (match op, ev ρ x with
    | .not, some (.bool b) => K (.bool (!b))
    | .neg, some (.int k n) => K (.int k (k.wrap (0 - n)))
    | .xor, some (.int k n) => K (.int k (bits .xor k (if k.signed then -1 else k.max) n))
    | _, _ => False)
  | .binOp op t x y _ => (match ev ρ x, ev ρ y with
    | some a, some b => binV (T.d t) op a b K
    | _, _ => False)
  | .convert _ t x => (match T.d t, ev ρ x with
    | .int k, some (.int _ n) => K (.int k (k.wrap n))
    | _, _ => False)
  | .fieldAddr s x f => (match T.d s, ev ρ x with
    | .struct fs, some (.pointer (some ad)) => (match fs[f]? with
      | some (t, off) => (match look T.recs t with
        | some q => (match Nat.beq q.size 0 with | false => K (.pointer (some (ad.add off))) | true => False)
        | none => False)
      | none => False)
    | _, _ => False)
  | .field s x f => (match T.d s, ev ρ x with
    | .struct fs, some (.agg cs) => (match fs[f]? with
      | some (t, off) => (match look T.recs t with
        | some q => (match q.d.agg with
          | true => K (.agg ((cs.toList.drop off).take q.size).toArray)
          | false => W (cs.toList[off]?) K)
        | none => False)
      | none => False)
    | _, _ => False)
  | .indexAddr t x i => (match T.d t, ev ρ x, ev ρ i with
    | .slice e, some (.slice A n _), some (.int _ j) => (match look T.recs e with
      | some q => Nn A fun ad => Sd (0 ≤ j ∧ j < n) (K (.pointer (some (ad.add (j.toNat * q.size)))))
      | none => False)
    | .arr n e, some (.pointer (some ad)), some (.int _ j) => (match look T.recs e with
      | some q => Sd (0 ≤ j ∧ j < n) (K (.pointer (some (ad.add (j.toNat * q.size)))))
      | none => False)
    | _, _, _ => False)
  | .build t parts => (match look T.recs t with
    | some q => (match q.d with
      | .struct fs => (match known T.recs fs, partsL fs T.recs ρ parts.toList with
        | true, some ps => (match ps.all (fun p => Nat.ble (p.1 + p.2.length) q.zero.length) with | true => K (.agg (fillL q.zero ps).toArray) | false => False)
        | _, _ => False)
      | .arr _ e => (match look T.recs e with
        | some qe => (match rowL [] qe.size ρ parts.toList with
          | some ps => (match ps.all (fun p => Nat.ble (p.1 + p.2.length) q.zero.length) with | true => K (.agg (fillL q.zero ps).toArray) | false => False)
          | none => False)
        | none => False)
      | _ => False)
    | none => False)
  | .extract x i => (match ev ρ x with
    | some (.tuple vs) => W (vs.toList[i]?) K
    | _ => False)
  | .makeInterface t x => (match look T.recs t, ev ρ x with
    | some q, some v => (match q.d with | .iface => False | .other => False | _ => K (.iface t v))
    | _, _ => False)
  | .makeFunc f first cap => (match evs ρ first.toList, evs ρ cap.toList with
    | some a, some b => K (.func f a.toArray b.toArray)
    | _, _ => False)
  | .slice t x lo hi none => (match T.d t, ev ρ x with
    | .slice e, some (.slice A n c) => (match look T.recs e, optInt ρ 0 lo, optInt ρ n hi with
      | some q, some l, some h => Sd (0 ≤ l ∧ l ≤ h ∧ h ≤ c) (K (.slice (cutA A c l.toNat q.size) (h.toNat - l.toNat) (c - l.toNat)))
      | _, _, _ => False)
    | _, _ => False)
  | .call { callee := .builtin b, args, argTypes := _ } => (match b, evs ρ args.toList with
    | .len, some [.slice _ n _] => K (.int .i64 n)
    | .min, some (.int k a :: r) => W (foldI imin k a r) K
    | .max, some (.int k a :: r) => W (foldI imax k a r) K
    | _, _ => False)
  | _ => False

end Go.Vc
/- The rules of VcA hold: operations that only compute. -/
namespace Go.Vc

theorem beq_ctor {a b : IntKind} (h : kindEq a b = true) : a = b := by
  cases a <;> cases b <;> first | rfl | (exfalso; revert h; decide)

section
variable {P : Program} {T : Tab} {n : Nat} {ρ : Env} {a : Act}

theorem Tab.Ok.und (hT : T.Ok P) {t : Nat} {d : D} (h : T.d t = d) (hd : d ≠ .other) : ∃ x, P.underlying t = some x ∧ D.of x = d := by
  unfold Tab.d at h
  cases hl : look T.recs t with
  | none => rw [hl] at h; exact absurd h.symm hd
  | some r => rw [hl] at h; obtain ⟨⟨x, hx, hx2⟩, _⟩ := hT.recs t r hl; exact ⟨x, hx, hx2.trans h⟩
theorem und_int {t : Nat} {k : IntKind} (hT : T.Ok P) (h : T.d t = .int k) : P.underlying t = some (.int k) := by
  obtain ⟨x, hx, hd⟩ := hT.und h (by simp)
  cases x <;> simp [D.of] at hd
  subst hd; exact hx
theorem und_bool {t : Nat} (hT : T.Ok P) (h : T.d t = .bool) : P.underlying t = some .bool := by
  obtain ⟨x, hx, hd⟩ := hT.und h (by simp)
  cases x <;> simp [D.of] at hd
  exact hx
theorem und_ptr {t e : Nat} (hT : T.Ok P) (h : T.d t = .ptr e) : P.underlying t = some (.pointer e) := by
  obtain ⟨x, hx, hd⟩ := hT.und h (by simp)
  cases x <;> simp [D.of] at hd
  subst hd; exact hx
theorem und_slice {t e : Nat} (hT : T.Ok P) (h : T.d t = .slice e) : P.underlying t = some (.slice e) := by
  obtain ⟨x, hx, hd⟩ := hT.und h (by simp)
  cases x <;> simp [D.of] at hd
  subst hd; exact hx
theorem und_arr {t m e : Nat} (hT : T.Ok P) (h : T.d t = .arr m e) : P.underlying t = some (.array m e) := by
  obtain ⟨x, hx, hd⟩ := hT.und h (by simp)
  cases x <;> simp [D.of] at hd
  obtain ⟨rfl, rfl⟩ := hd; exact hx
theorem und_map {t k e : Nat} (hT : T.Ok P) (h : T.d t = .map k e) : P.underlying t = some (.map k e) := by
  obtain ⟨x, hx, hd⟩ := hT.und h (by simp)
  cases x <;> simp [D.of] at hd
  obtain ⟨rfl, rfl⟩ := hd; exact hx
theorem und_struct {t : Nat} {fs : List (Nat × Nat)} (hT : T.Ok P) (h : T.d t = .struct fs) : ∃ gs, P.underlying t = some (.struct gs) ∧ gs.toList.map (fun f => (f.type, f.offset)) = fs := by
  obtain ⟨x, hx, hd⟩ := hT.und h (by simp)
  cases x <;> simp [D.of] at hd
  exact ⟨_, hx, by simpa using hd⟩
theorem look_size {t : Nat} {q : Rec} (hT : T.Ok P) (h : look T.recs t = some q) (w : World) : (sizeOf t).run P w = .ok q.size w := by
  obtain ⟨_, i, z, hi, hs, _⟩ := hT.recs t q h
  simp [sizeOf, typeInfo, hi, hs]
theorem look_zero {t : Nat} {q : Rec} (hT : T.Ok P) (h : look T.recs t = some q) : ∃ z : Value, z.cells.toList = q.zero ∧ ∀ w, (zeroValue t).run P w = .ok z w := by
  obtain ⟨_, i, z, hi, _, _, hz, hc⟩ := hT.recs t q h
  exact ⟨z, hc, fun w => by simp [zeroValue, typeInfo, hi, hz]⟩
theorem look_isAgg {t : Nat} {q : Rec} (hT : T.Ok P) (h : look T.recs t = some q) (w : World) :
    (isAgg t).run P w = .ok q.d.agg w := by
  obtain ⟨⟨d, hd, he⟩, _⟩ := hT.recs t q h
  rw [← he]
  simp only [isAgg, Sem.run_bind, run_underlying hd, Result.andThen_ok]
  cases d <;> simp [D.of, D.agg]
theorem look_d {t : Nat} {q : Rec} (h : look T.recs t = some q) : T.d t = q.d := by unfold Tab.d; rw [h]

def ExecsTo (P : Program) (s : Sem Next) (v : Value) : Prop := ∀ w, s.run P w = .ok (.value v) w

theorem W_some {o : Option Value} {K : Value → Prop} (h : W o K) : ∃ v, o = some v ∧ K v := by
  cases o with
  | none => exact h.elim
  | some v => exact ⟨v, rfl, h⟩

theorem sound_intOp {op : BinOp} {k : IntKind} {x y : Int} {K : Value → Prop} (h : intOp op k x y K) (hs : isShift op = false) :
    ∃ v, K v ∧ ∀ t w, (binOp op t (.int k x) (.int k y)).run P w = .ok v w := by
  cases op <;> simp only [intOp] at h <;> (try (exact h.elim)) <;> (try (simp [isShift] at hs; done))
  case quo => unfold Sd at h; exact ⟨_, h.2, fun t w => by simp [binOp, Op.intDiv, h.1]⟩
  case rem => unfold Sd at h; exact ⟨_, h.2, fun t w => by simp [binOp, Op.intDiv, h.1]⟩
  all_goals exact ⟨_, h, fun t w => by simp [binOp, Op.intArith, Op.intCmp, Op.intBits, bits]; try rfl⟩

theorem eqGuard_ok (op : BinOp) (t : TypeId) (x y : Operand) (u v : Value) (h : ∀ cs ds, ¬ (u = .agg cs ∧ v = .agg ds)) (h2 : ¬ (u = .nilIface ∧ v = .nilIface)) (w : World) :
    (eqGuard op t x y u v).run P w = .ok () w := by
  cases op <;> first
    | rfl
    | (cases u <;> first
        | rfl
        | (cases v <;> first | rfl | exact absurd ⟨rfl, rfl⟩ h2 | exact absurd ⟨rfl, rfl⟩ (h _ _)))

theorem equalIn_nilptr {t e : Nat} {a : Option Addr} (ht : P.underlying t = some (.pointer e)) (d : Nat) (w : World) : (Op.equalIn (d + 1) t (.pointer a) (.pointer none)).run P w = .ok a.isNone w := by
  cases a <;> simp [Op.equalIn, run_underlying ht]
theorem equalIn_nilslice {t e m c m' c' : Nat} {a : Option Addr} (ht : P.underlying t = some (.slice e)) (d : Nat) (w : World) : (Op.equalIn (d + 1) t (.slice a m c) (.slice none m' c')).run P w = .ok a.isNone w := by
  cases a <;> simp [Op.equalIn, run_underlying ht]
theorem equalIn_nilmap {t k e : Nat} {a : Option Nat} (ht : P.underlying t = some (.map k e)) (d : Nat) (w : World) : (Op.equalIn (d + 1) t (.map a) (.map none)).run P w = .ok a.isNone w := by
  cases a <;> simp [Op.equalIn, run_underlying ht]
theorem equalIn_bool {t : Nat} {a b : Bool} (ht : P.underlying t = some .bool) (d : Nat) (w : World) : (Op.equalIn (d + 1) t (.bool a) (.bool b)).run P w = .ok (a == b) w := by
  simp [Op.equalIn, run_underlying ht]
theorem equal_nilptr {t e : Nat} {a : Option Addr} (ht : P.underlying t = some (.pointer e)) (w : World) : (Op.equal t (.pointer a) (.pointer none)).run P w = .ok a.isNone w :=
  equalIn_nilptr ht 9999 w
theorem equal_nilslice {t e m c m' c' : Nat} {a : Option Addr} (ht : P.underlying t = some (.slice e)) (w : World) : (Op.equal t (.slice a m c) (.slice none m' c')).run P w = .ok a.isNone w :=
  equalIn_nilslice ht 9999 w
theorem equal_nilmap {t k e : Nat} {a : Option Nat} (ht : P.underlying t = some (.map k e)) (w : World) : (Op.equal t (.map a) (.map none)).run P w = .ok a.isNone w :=
  equalIn_nilmap ht 9999 w
theorem equal_bool {t : Nat} {a b : Bool} (ht : P.underlying t = some .bool) (w : World) : (Op.equal t (.bool a) (.bool b)).run P w = .ok (a == b) w :=
  equalIn_bool ht 9999 w

theorem sound_binV (hT : T.Ok P) {op : BinOp} {t : Nat} {x y : Value} {K : Value → Prop} (h : binV (T.d t) op x y K) (X Y : Operand) :
    ∃ v, K v ∧ ∀ w, ((do eqGuard op t X Y x y; binOp op t x y : Sem Value)).run P w = .ok v w := by
  unfold binV at h
  cases hs : isShift op with
  | true =>
    rw [hs] at h
    cases x <;> try (exact h.elim)
    cases y <;> try (exact h.elim)
    rename_i k x k' y
    simp only at h
    unfold Sd at h
    refine ⟨_, h.2, fun w => ?_⟩
    rw [Sem.run_bind, eqGuard_ok _ _ _ _ _ _ (by simp) (by simp)]
    cases op <;> simp [isShift] at hs <;> simp [binOp, Op.shift, shiftV, Int.not_lt.2 h.1]
  | false =>
    rw [hs] at h
    cases x <;> try (exact h.elim)
    case bool x =>
      cases y <;> try (exact h.elim)
      simp only at h
      split at h
      · rename_i hd; exact ⟨_, h, fun w => by rw [Sem.run_bind, eqGuard_ok _ _ _ _ _ _ (by simp) (by simp)]; simp [binOp, equal_bool (und_bool hT hd)]⟩
      · rename_i hd; exact ⟨_, h, fun w => by rw [Sem.run_bind, eqGuard_ok _ _ _ _ _ _ (by simp) (by simp)]; simp [binOp, equal_bool (und_bool hT hd)]⟩
      · exact h.elim
    case int k x =>
      cases y <;> try (exact h.elim)
      rename_i k' y
      simp only at h
      cases hk : kindEq k k' with
      | false => rw [hk] at h; exact h.elim
      | true =>
        rw [hk] at h
        have := beq_ctor hk; subst this
        obtain ⟨v, hv, hr⟩ := sound_intOp (P := P) h hs
        exact ⟨v, hv, fun w => by rw [Sem.run_bind, eqGuard_ok _ _ _ _ _ _ (by simp) (by simp), Result.andThen_ok, hr]⟩
    case pointer x =>
      cases y <;> try (exact h.elim)
      rename_i y
      cases y <;> try (exact h.elim)
      simp only at h
      split at h
      · rename_i e hd; exact ⟨_, h, fun w => by rw [Sem.run_bind, eqGuard_ok _ _ _ _ _ _ (by simp) (by simp)]; simp [binOp, equal_nilptr (und_ptr hT hd)]⟩
      · rename_i e hd; exact ⟨_, h, fun w => by rw [Sem.run_bind, eqGuard_ok _ _ _ _ _ _ (by simp) (by simp)]; simp [binOp, equal_nilptr (und_ptr hT hd)]⟩
      · exact h.elim
    case slice x m c =>
      cases y <;> try (exact h.elim)
      rename_i y m' c'
      cases y <;> try (exact h.elim)
      simp only at h
      split at h
      · rename_i e hd; exact ⟨_, h, fun w => by rw [Sem.run_bind, eqGuard_ok _ _ _ _ _ _ (by simp) (by simp)]; simp [binOp, equal_nilslice (und_slice hT hd)]⟩
      · rename_i e hd; exact ⟨_, h, fun w => by rw [Sem.run_bind, eqGuard_ok _ _ _ _ _ _ (by simp) (by simp)]; simp [binOp, equal_nilslice (und_slice hT hd)]⟩
      · exact h.elim
    case map x =>
      cases y <;> try (exact h.elim)
      rename_i y
      cases y <;> try (exact h.elim)
      simp only at h
      split at h
      · rename_i k e hd; exact ⟨_, h, fun w => by rw [Sem.run_bind, eqGuard_ok _ _ _ _ _ _ (by simp) (by simp)]; simp [binOp, equal_nilmap (und_map hT hd)]⟩
      · rename_i k e hd; exact ⟨_, h, fun w => by rw [Sem.run_bind, eqGuard_ok _ _ _ _ _ _ (by simp) (by simp)]; simp [binOp, equal_nilmap (und_map hT hd)]⟩
      · exact h.elim

theorem fill_foldl (vs : List Value) : ∀ (off : Nat) (cs : List Value), off + vs.length ≤ cs.length →
    (vs.zipIdx.foldl (fun (cs : Array Value) (x : Value × Nat) => cs.setIfInBounds (off + x.2) x.1) cs.toArray) = (cs.take off ++ vs ++ cs.drop (off + vs.length)).toArray := by
  suffices H : ∀ (k off : Nat) (cs : List Value), off + k + vs.length ≤ cs.length →
      ((vs.zipIdx k).foldl (fun (cs : Array Value) (x : Value × Nat) => cs.setIfInBounds (off + x.2) x.1) cs.toArray) = (cs.take (off + k) ++ vs ++ cs.drop (off + k + vs.length)).toArray from
    fun off cs h => H 0 off cs h
  induction vs with
  | nil => intro k off cs h; simp
  | cons v vs ih =>
    intro k off cs h
    simp only [List.zipIdx_cons, List.foldl_cons, List.setIfInBounds_toArray]
    rw [ih (k + 1) off _ (by simp only [List.length_cons, List.length_set] at *; omega)]
    congr 1
    have hk : off + k < cs.length := by simp only [List.length_cons] at h; omega
    have h1 : List.take (off + (k + 1)) (cs.set (off + k) v) = cs.take (off + k) ++ [v] := by
      rw [← Nat.add_assoc, List.take_succ_eq_append_getElem (by simpa using hk)]
      simp [List.take_set_of_le]
    have h2 : List.drop (off + (k + 1) + vs.length) (cs.set (off + k) v) = cs.drop (off + k + (v :: vs).length) := by
      rw [List.drop_set_of_lt (by omega)]
      congr 1
      simp only [List.length_cons]; omega
    rw [h1, h2]
    simp

theorem cells_eq (v : Value) : v.cells.toList = cellsL v := by cases v <;> rfl
theorem fill_ok (place : Nat → Option (Nat × Nat)) : ∀ (ps : List (Nat × Value)) (qs : List (Nat × List Value)) (cs : List Value),
    ps.map (fun p => (place p.1, cellsL p.2)) = qs.map (fun q => (some (q.1, q.2.length), q.2)) →
    qs.all (fun p => Nat.ble (p.1 + p.2.length) cs.length) = true →
    Instr.fill place cs.toArray ps = some (fillL cs qs).toArray := by
  intro ps
  induction ps with
  | nil => intro qs cs h _; cases qs with | nil => rfl | cons q qs => simp at h
  | cons p ps ih =>
    intro qs cs h hall
    cases qs with
    | nil => simp at h
    | cons q qs =>
      obtain ⟨i, v⟩ := p
      obtain ⟨off, vs⟩ := q
      simp only [List.map_cons, List.cons.injEq, Prod.mk.injEq] at h
      obtain ⟨⟨h1, h2⟩, h3⟩ := h
      simp only [List.all_cons, Bool.and_eq_true, Nat.ble_eq] at hall
      obtain ⟨hlen, hall⟩ := hall
      have hcs : v.cells = vs.toArray := by rw [← h2, ← cells_eq]
      simp only [Instr.fill, h1, fillL]
      rw [hcs]
      rw [if_neg (by simp; omega)]
      have hz : (Array.zipIdx vs.toArray).foldl (fun (cs : Array Value) (x : Value × Nat) => match x with | (c, j) => cs.setIfInBounds (off + j) c) cs.toArray = (cs.take off ++ vs ++ cs.drop (off + vs.length)).toArray := by
        rw [← fill_foldl vs off cs hlen]
        simp
      rw [hz]
      refine ih qs _ h3 ?_
      rw [← hall]
      congr 1
      funext p
      have : (List.take off cs ++ vs ++ List.drop (off + vs.length) cs).length = cs.length := by simp; omega
      rw [this]

theorem partsL_ok (hρ : ρ.Ok n a) (fs : List (Nat × Nat)) : ∀ (l : List (Nat × Operand)) (qs : List (Nat × List Value)), partsL fs T.recs ρ l = some qs →
    ∀ (place : Nat → Option (Nat × Nat)), (∀ i t off q, fs[i]? = some (t, off) → look T.recs t = some q → place i = some (off, q.size)) →
    (l.map fun p => (p.1, a.eval p.2)).map (fun p => (place p.1, cellsL p.2)) = qs.map (fun q => (some (q.1, q.2.length), q.2)) := by
  intro l
  induction l with
  | nil => intro qs h place _; simp [partsL] at h; subst h; rfl
  | cons p l ih =>
    intro qs h place hp
    obtain ⟨i, x⟩ := p
    simp only [partsL] at h
    cases h1 : fs[i]? with
    | none => simp [h1] at h
    | some to =>
      obtain ⟨t, off⟩ := to
      cases h2 : ev ρ x with
      | none => simp [h1, h2] at h
      | some v =>
        cases h3 : partsL fs T.recs ρ l with
        | none => simp [h1, h2, h3] at h
        | some ps =>
          simp only [h1, h2, h3] at h
          cases h4 : look T.recs t with
          | none => simp [h4] at h
          | some q =>
            simp only [h4] at h
            cases h5 : Nat.beq (cellsL v).length q.size with
            | false => simp [h5] at h
            | true =>
              simp only [h5, Option.some.injEq] at h
              subst h
              have := Nat.eq_of_beq_eq_true h5
              simp [hρ.ev h2, hp i t off q h1 h4, this]
              simpa using ih ps h3 place hp

theorem foldI_ok {f : Int → Int → Int} {g : Value → Value → Sem Value} (hg : ∀ k x y w, (g (.int k x) (.int k y)).run P w = .ok (.int k (f x y)) w) {k : IntKind} :
    ∀ (r : List Value) (x : Int) (v : Value), foldI f k x r = some v → ∀ w, (r.foldlM g (.int k x)).run P w = .ok v w := by
  intro r
  induction r with
  | nil => intro x v h w; simp [foldI] at h; subst h; rfl
  | cons y r ih =>
    intro x v h w
    cases y <;> simp only [foldI] at h <;> try (cases h; done)
    rename_i k' b
    cases hk : kindEq k k' with
    | false => rw [hk] at h; cases h
    | true =>
      rw [hk] at h
      have := beq_ctor hk; subst this
      rw [List.foldlM_cons, Sem.run_bind, hg, Result.andThen_ok]
      exact ih _ _ h w

theorem optInt_ok (hρ : ρ.Ok n a) {d : Int} {x : Option Operand} {m : Int} (h : optInt ρ d x = some m) :
    (x = none ∧ m = d) ∨ ∃ o k, x = some o ∧ a.eval o = .int k m := by
  cases x with
  | none => simp [optInt] at h; exact .inl ⟨rfl, h.symm⟩
  | some o =>
    simp only [optInt] at h
    cases he : ev ρ o with
    | none => simp [he] at h
    | some v => cases v <;> simp [he] at h; subst h; exact .inr ⟨o, _, rfl, hρ.ev he⟩

theorem sliceBound_ok {k : IntKind} {i : Int} {y : Nat} {c : BoundsCode} (h : 0 ≤ i ∧ i ≤ y) (w : World) : (Instr.sliceBound (.int k i) y c).run P w = .ok i.toNat w := by
  simp [Instr.sliceBound, asIntOf, h]
end
end Go.Vc
/- The rules of VcA hold: all operations that only compute, in one law. -/
namespace Go.Vc
section
variable {P : Program} {T : Tab} {n : Nat} {ρ : Env} {a : Act}

theorem mapM_struct (hT : T.Ok P) : ∀ (gs : List Field), (∀ g ∈ gs, ∃ q, look T.recs g.type = some q) → ∀ (w : World),
    (gs.mapM (m := Sem) fun f => do pure (f.offset, ← sizeOf f.type)).run P w = .ok (gs.map fun f => (f.offset, match look T.recs f.type with | some q => q.size | none => 0)) w := by
  intro gs
  induction gs with
  | nil => intro _ w; rfl
  | cons g gs ih =>
    intro h w
    obtain ⟨q, hq⟩ := h g List.mem_cons_self
    have := ih (fun g hg => h g (List.mem_cons_of_mem _ hg))
    simp only [List.mapM_cons, Sem.run_bind, look_size hT hq, Result.andThen_ok, Sem.run_pure, this, List.map_cons, hq]

theorem known_mem {recs : List (Nat × Rec)} : ∀ {fs : List (Nat × Nat)}, known recs fs = true → ∀ {t off : Nat}, (t, off) ∈ fs → ∃ q, look recs t = some q := by
  intro fs
  induction fs with
  | nil => intro _ t off h; cases h
  | cons p fs ih =>
    intro h t off hm
    obtain ⟨u, o⟩ := p
    simp only [known] at h
    cases hl : look recs u with
    | none => rw [hl] at h; cases h
    | some q =>
      rw [hl] at h
      rcases List.mem_cons.1 hm with e | e
      · injection e with e1 e2; subst e1; exact ⟨q, hl⟩
      · exact ih h e
theorem mapM_arr (gs : Array Field) (f : Field → Sem (Nat × Nat)) (l : List (Nat × Nat)) (w : World) (h : (gs.toList.mapM f).run P w = .ok l w) : (gs.mapM f).run P w = .ok l.toArray w := by
  rw [Array.mapM_eq_mapM_toList, Sem.run_map, h]; rfl

theorem rowL_ok (hρ : ρ.Ok n a) (size : Nat) : ∀ (l : List (Nat × Operand)) (qs : List (Nat × List Value)), rowL [] size ρ l = some qs →
    (l.map fun p => (p.1, a.eval p.2)).map (fun p => (some (p.1 * size, size), cellsL p.2)) = qs.map (fun q => (some (q.1, q.2.length), q.2)) := by
  intro l
  induction l with
  | nil => intro qs h; simp [rowL] at h; subst h; rfl
  | cons p l ih =>
    intro qs h
    obtain ⟨i, x⟩ := p
    simp only [rowL] at h
    cases h2 : ev ρ x with
    | none => simp [h2] at h
    | some v =>
      cases h3 : rowL [] size ρ l with
      | none => simp [h2, h3] at h
      | some ps =>
        simp only [h2, h3] at h
        cases h5 : Nat.beq (cellsL v).length size with
        | false => simp [h5] at h
        | true =>
          simp only [h5, Option.some.injEq] at h
          subst h
          have := Nat.eq_of_beq_eq_true h5
          simp [hρ.ev h2, this]
          simpa using ih ps h3

theorem pure_sound (hT : T.Ok P) (hρ : ρ.Ok n a) {o : Oper} {K : Value → Prop} (hp : isPure T o.op = true) (h : pureVC T ρ o.op K) :
    ∃ v, K v ∧ ∀ w, (execOp a.eval o).run P w = .ok (.value v) w := by
  obtain ⟨dst, op, type, pos, after, guard⟩ := o
  simp only at hp h
  cases op with
  | move x => obtain ⟨v, hv, hk⟩ := W_some h; exact ⟨v, hk, fun w => by simp [execOp, hρ.ev hv]⟩
  | assign x => obtain ⟨v, hv, hk⟩ := W_some h; exact ⟨v, hk, fun w => by simp [execOp, hρ.ev hv]⟩
  | pick c x y =>
    simp only [pureVC] at h
    split at h
    · rename_i b va vb h1 h2 h3
      cases b
      · exact ⟨vb, h, fun w => by simp [execOp, hρ.ev h1, hρ.ev h3, asBool]⟩
      · exact ⟨va, h, fun w => by simp [execOp, hρ.ev h1, hρ.ev h2, asBool]⟩
    · exact h.elim
  | nilCheck x =>
    simp only [pureVC] at h
    split at h
    · rename_i p h1
      cases p with
      | none => exact h.elim
      | some ad => exact ⟨_, h, fun w => by simp [execOp, hρ.ev h1]⟩
    · rename_i g x y h1; exact ⟨_, h, fun w => by simp [execOp, hρ.ev h1]⟩
    · rename_i t v h1; exact ⟨_, h, fun w => by simp [execOp, hρ.ev h1]⟩
    · exact h.elim
  | unOp op t x =>
    simp only [pureVC] at h
    split at h
    · rename_i b h1; exact ⟨_, h, fun w => by simp [execOp, hρ.ev h1, Op.unary]⟩
    · rename_i k m h1; exact ⟨_, h, fun w => by simp [execOp, hρ.ev h1, Op.unary, Op.intArith]⟩
    · rename_i k m h1; exact ⟨_, h, fun w => by simp [execOp, hρ.ev h1, Op.unary, Op.intBits, bits]⟩
    · exact h.elim
  | binOp op t x y u =>
    simp only [pureVC] at h
    split at h
    · rename_i va vb h1 h2
      obtain ⟨v, hv, hr⟩ := sound_binV hT h x y
      refine ⟨v, hv, fun w => ?_⟩
      simp only [execOp, hρ.ev h1, hρ.ev h2]
      rw [Sem.run_bind, hr w]
      rfl
    · exact h.elim
  | convert s t x =>
    simp only [pureVC] at h
    split at h
    · rename_i k k' m h1 h2
      simp only [isPure] at hp
      split at hp
      · rename_i ks kt hs ht
        have e2 := und_int hT h1
        have e1 := und_int hT hs
        exact ⟨_, h, fun w => by simp [execOp, hρ.ev h2, convert, run_underlying e1, run_underlying e2, Conv.intToInt]⟩
      · cases hp
    · exact h.elim
  | fieldAddr s x f =>
    simp only [pureVC] at h
    split at h
    · rename_i fs ad h1 h2
      split at h
      · rename_i t off h3
        split at h
        · rename_i q h4
          split at h
          · rename_i h5
            obtain ⟨gs, hu, hm⟩ := und_struct hT h1
            have hg : ∃ g, gs[f]? = some g ∧ g.type = t ∧ g.offset = off := by
              rw [← hm, List.getElem?_map] at h3
              cases hgg : gs.toList[f]? with
              | none => simp [hgg] at h3
              | some g => rw [hgg] at h3; simp at h3; exact ⟨g, by simpa using hgg, h3.1, h3.2⟩
            obtain ⟨g, hg1, hg2, hg3⟩ := hg
            have hne : q.size ≠ 0 := fun e => by rw [e] at h5; cases h5
            subst hg2; subst hg3
            exact ⟨_, h, fun w => by simp [execOp, hρ.ev h2, Instr.fieldAt, run_underlying hu, hg1, Instr.sureAddr, fieldPlace, look_size hT h4, hne]⟩
          · exact h.elim
        · exact h.elim
      · exact h.elim
    · exact h.elim
  | field s x f =>
    simp only [pureVC] at h
    split at h
    · rename_i fs cs h1 h2
      split at h
      · rename_i t off h3
        split at h
        · rename_i q h4
          obtain ⟨gs, hu, hm⟩ := und_struct hT h1
          have hg : ∃ g, gs[f]? = some g ∧ g.type = t ∧ g.offset = off := by
            rw [← hm, List.getElem?_map] at h3
            cases hgg : gs.toList[f]? with
            | none => simp [hgg] at h3
            | some g => rw [hgg] at h3; simp at h3; exact ⟨g, by simpa using hgg, h3.1, h3.2⟩
          obtain ⟨g, hg1, hg2, hg3⟩ := hg
          subst hg2; subst hg3
          have hagg := look_isAgg hT h4
          have hex : (cs.toList.drop g.offset).take q.size = (cs.extract g.offset (g.offset + q.size)).toList := by
            simp [Array.toList_extract, List.extract_eq_take_drop]
          cases hq : q.d.agg with
          | true =>
            rw [hq] at hagg h
            refine ⟨_, h, fun w => ?_⟩
            simp [execOp, hρ.ev h2, Instr.field, run_underlying hu, hg1, part, hagg, asAgg, look_size hT h4]
            rw [hex]
          | false =>
            rw [hq] at hagg h
            obtain ⟨v, hv, hk⟩ := W_some h
            refine ⟨v, hk, fun w => ?_⟩
            have hv' : cs[g.offset]? = some v := by simpa using hv
            simp [execOp, hρ.ev h2, Instr.field, run_underlying hu, hg1, part, hagg, asAgg, hv']
        · exact h.elim
      · exact h.elim
    · exact h.elim
  | indexAddr t x i =>
    simp only [pureVC] at h
    split at h
    · rename_i e A m c k j h1 h2 h3
      split at h
      · rename_i q h4
        cases A with
        | none => exact h.elim
        | some ad =>
          unfold Nn Sd at h
          obtain ⟨hb, hk⟩ := h
          refine ⟨_, hk, fun w => ?_⟩
          simp [execOp, hρ.ev h2, hρ.ev h3, Instr.indexAt, asIntOf, run_underlying (und_slice hT h1), hb, look_size hT h4]
      · exact h.elim
    · rename_i m e ad k j h1 h2 h3
      split at h
      · rename_i q h4
        unfold Sd at h
        obtain ⟨hb, hk⟩ := h
        refine ⟨_, hk, fun w => ?_⟩
        simp [execOp, hρ.ev h2, hρ.ev h3, Instr.indexAt, asIntOf, run_underlying (und_arr hT h1), hb, look_size hT h4, Instr.sureAddr]
      · exact h.elim
    · exact h.elim
  | build t parts =>
    simp only [pureVC] at h
    split at h
    · rename_i q h1
      split at h
      · rename_i fs h2
        split at h
        · rename_i ps h0 h3
          cases hall : ps.all (fun p => Nat.ble (p.1 + p.2.length) q.zero.length) with
          | false => rw [hall] at h; exact h.elim
          | true =>
          rw [hall] at h
          have hk := h
          have hd : T.d t = .struct fs := by rw [look_d h1, h2]
          obtain ⟨gs, hu, hm⟩ := und_struct hT hd
          obtain ⟨z, hz, hzr⟩ := look_zero hT h1
          refine ⟨_, hk, fun w => ?_⟩
          have hkn : ∀ g ∈ gs.toList, ∃ q, look T.recs g.type = some q := by
            intro g hg
            have : (g.type, g.offset) ∈ fs := by rw [← hm]; exact List.mem_map.2 ⟨g, hg, rfl⟩
            exact known_mem h0 this
          have hmm := mapM_struct hT gs.toList hkn w
          have hpl := partsL_ok hρ fs parts.toList ps h3 (fun i => ((gs.toList.map fun f => (f.offset, match look T.recs f.type with | some q => q.size | none => 0)))[i]?) (by
            intro i t off q hi hl
            rw [← hm, List.getElem?_map] at hi
            cases hgi : gs.toList[i]? with
            | none => simp [hgi] at hi
            | some g =>
              rw [hgi] at hi
              simp at hi
              simp [hgi, hi, hl])
          have hfill := fill_ok _ _ _ q.zero hpl hall
          have hpe : (parts.map fun (x : Nat × Operand) => match x with | (i, x) => (i, a.eval x)).toList = parts.toList.map fun p => (p.1, a.eval p.2) := by simp
          simp only [execOp, Instr.build, Sem.run_bind, hzr, Result.andThen_ok, run_underlying hu]
          rw [mapM_arr _ _ _ _ hmm]
          simp only [Result.andThen_ok]
          have hzz : z.cells = q.zero.toArray := by apply Array.toList_inj.1; simpa using hz
          rw [hzz, hpe]
          simp only [List.getElem?_toArray]
          rw [hfill]
          rfl
        · exact h.elim
      · rename_i na e h2
        split at h
        · rename_i qe h3
          split at h
          · rename_i ps h4
            cases hall : ps.all (fun p => Nat.ble (p.1 + p.2.length) q.zero.length) with
            | false => rw [hall] at h; exact h.elim
            | true =>
            rw [hall] at h
            have hd : T.d t = .arr na e := by rw [look_d h1, h2]
            obtain ⟨z, hz, hzr⟩ := look_zero hT h1
            refine ⟨_, h, fun w => ?_⟩
            have hfill := fill_ok (fun i => some (i * qe.size, qe.size)) _ ps q.zero (rowL_ok hρ qe.size parts.toList ps h4) hall
            have hpe : (parts.map fun (x : Nat × Operand) => match x with | (i, x) => (i, a.eval x)).toList = parts.toList.map fun p => (p.1, a.eval p.2) := by simp
            have hzz : z.cells = q.zero.toArray := by apply Array.toList_inj.1; simpa using hz
            simp only [execOp, Instr.build, Sem.run_bind, hzr, Result.andThen_ok, run_underlying (und_arr hT hd), look_size hT h3]
            rw [hzz, hpe, hfill]
            rfl
          · exact h.elim
        · exact h.elim
      · exact h.elim
    · exact h.elim
  | extract x i =>
    simp only [pureVC] at h
    split at h
    · rename_i vs h1
      obtain ⟨v, hv, hk⟩ := W_some h
      have hv' : vs[i]? = some v := by simpa using hv
      exact ⟨v, hk, fun w => by simp [execOp, hρ.ev h1, Instr.extract, hv']⟩
    · exact h.elim
  | makeInterface t x =>
    simp only [pureVC] at h
    split at h
    · rename_i q v h1 h2
      obtain ⟨⟨d, hd, he⟩, _⟩ := hT.recs t q h1
      have : K (.iface t v) ∧ ∀ ms, d ≠ .interface ms := by
        rw [← he] at h
        cases d <;> simp [D.of] at h <;> simp [h]
      refine ⟨_, this.1, fun w => ?_⟩
      simp only [execOp, hρ.ev h2, Instr.makeInterface, Sem.run_bind, run_underlying hd, Result.andThen_ok]
      cases d <;> first | rfl | exact absurd rfl (this.2 _)
    · exact h.elim
  | makeFunc f first cap =>
    simp only [pureVC] at h
    split at h
    · rename_i x y h1 h2
      refine ⟨_, h, fun w => ?_⟩
      have e1 : first.map a.eval = x.toArray := Array.toList_inj.1 (by simpa using hρ.evs h1)
      have e2 : cap.map a.eval = y.toArray := Array.toList_inj.1 (by simpa using hρ.evs h2)
      simp [execOp, Instr.makeFunc, e1, e2]
    · exact h.elim
  | slice t x lo hi mx =>
    cases mx with
    | some m => exact h.elim
    | none =>
      simp only [pureVC] at h
      split at h
      · rename_i e A m c h1 h2
        split at h
        · rename_i q l hh h3 h4 h5
          unfold Sd at h
          obtain ⟨⟨b1, b2, b3⟩, hk⟩ := h
          refine ⟨_, hk, fun w => ?_⟩
          have hu := und_slice hT h1
          have key : (Instr.sliceBounds true m c (lo.map a.eval) (hi.map a.eval) none).run P w = .ok (l.toNat, hh.toNat, c) w := by
            have g1 : ∀ k code, (Instr.sliceBound (.int k hh) c code).run P w = .ok hh.toNat w := fun k code => sliceBound_ok ⟨by omega, b3⟩ w
            have g2 : ∀ k code, (Instr.sliceBound (.int k l) hh.toNat code).run P w = .ok l.toNat w := fun k code => sliceBound_ok ⟨b1, by omega⟩ w
            rcases optInt_ok hρ h5 with ⟨rfl, rfl⟩ | ⟨oh, kh, rfl, eh⟩ <;> rcases optInt_ok hρ h4 with ⟨rfl, rfl⟩ | ⟨ol, kl, rfl, el⟩
            · simp [Instr.sliceBounds]
            · have g3 : ∀ k code, (Instr.sliceBound (.int k l) m code).run P w = .ok l.toNat w := fun k code => sliceBound_ok ⟨b1, b2⟩ w
              simp [Instr.sliceBounds, el, g3]
            · simp [Instr.sliceBounds, eh, g1]
            · simp [Instr.sliceBounds, eh, el, g1, g2]
          simp only [execOp, hρ.ev h2, Instr.sliceAt, Sem.run_bind, run_underlying hu, Result.andThen_ok, Instr.slice, Option.map_none, key, look_size hT h3, Sem.run_pure]
          rfl
        · exact h.elim
      · exact h.elim
  | call c =>
    obtain ⟨callee, args, argTypes⟩ := c
    cases callee with
    | value f => cases hp
    | invoke r m => cases hp
    | builtin b =>
      simp only [pureVC] at h
      split at h
      · rename_i A m c h1
        have e1 : args.map a.eval = #[.slice A m c] := by
          have := hρ.evs h1
          apply Array.toList_inj.1
          simpa using this
        simp only [isPure] at hp
        split at hp
        · rename_i t ht
          split at hp
          · rename_i e hd
            have hty : argTypes = #[t] := by apply Array.toList_inj.1; simpa using ht
            subst hty
            refine ⟨_, h, fun w => ?_⟩
            simp [execOp, resolve, e1, invoke, builtin, Builtin.len_, run_underlying (und_slice hT hd), goInt]
          · cases hp
        · cases hp
      · rename_i k x r h1
        obtain ⟨v, hv, hk⟩ := W_some h
        have e1 : args.map a.eval = (Value.int k x :: r).toArray := by
          have := hρ.evs h1
          apply Array.toList_inj.1
          simpa using this
        refine ⟨v, hk, fun w => ?_⟩
        have := foldI_ok (P := P) (f := imin) (g := Builtin.min2) (by intro k x y w; unfold imin; simp [Builtin.min2]) r x v hv w
        simp [execOp, resolve, e1, invoke, builtin, Builtin.min_, this]
      · rename_i k x r h1
        obtain ⟨v, hv, hk⟩ := W_some h
        have e1 : args.map a.eval = (Value.int k x :: r).toArray := by
          have := hρ.evs h1
          apply Array.toList_inj.1
          simpa using this
        refine ⟨v, hk, fun w => ?_⟩
        have := foldI_ok (P := P) (f := imax) (g := Builtin.max2) (by intro k x y w; unfold imax; simp [Builtin.max2]) r x v hv w
        simp [execOp, resolve, e1, invoke, builtin, Builtin.max_, this]
      · exact h.elim
  | _ => cases hp
end
end Go.Vc
/- The rules for operations that read or write memory, and for calls. -/
namespace Go.Vc

def LdC (w : World) (ad : Addr) (K : Value → Prop) : Prop := ∃ v, w.cell? ad = some v ∧ K v
theorem LdC_intro {w : World} {ad : Addr} {K : Value → Prop} {v : Value} (h : w.cell? ad = some v) (k : K v) : LdC w ad K := ⟨v, h, k⟩
theorem LdC_elim {w : World} {ad : Addr} {K : Value → Prop} (h : LdC w ad K) : ∃ v, w.cell? ad = some v ∧ K v := h
attribute [irreducible] LdC
noncomputable def LdN (w : World) (ad : Addr) (i n : Nat) (K : List Value → Prop) : Prop :=
  Nat.rec (motive := fun _ => Nat → (List Value → Prop) → Prop) (fun _ K => K []) (fun _ ih i K => LdC w (ad.add i) fun v => ih (i + 1) fun vs => K (v :: vs)) n i K
theorem LdN_succ' {w : World} {ad : Addr} {i n : Nat} {K : List Value → Prop} : LdN w ad i (n + 1) K = LdC w (ad.add i) fun v => LdN w ad (i + 1) n fun vs => K (v :: vs) := rfl
def StC (w : World) (ad : Addr) (v : Value) (K : World → Prop) : Prop := v.oneCell' = true ∧ (∃ u, w.cell? ad = some u) ∧ w.frozen? ad = false ∧ K (w.setCell ad v)
theorem StC_intro {w : World} {ad : Addr} {v u : Value} {K : World → Prop} (h1 : v.oneCell' = true) (h2 : w.cell? ad = some u) (h3 : w.frozen? ad = false) (k : K (w.setCell ad v)) : StC w ad v K := ⟨h1, ⟨u, h2⟩, h3, k⟩
theorem StC_elim {w : World} {ad : Addr} {v : Value} {K : World → Prop} (h : StC w ad v K) : v.oneCell' = true ∧ (∃ u, w.cell? ad = some u) ∧ w.frozen? ad = false ∧ K (w.setCell ad v) := h
attribute [irreducible] StC
noncomputable def StN (ad : Addr) (i : Nat) (vs : List Value) (K : World → Prop) (w : World) : Prop :=
  List.rec (motive := fun _ => Nat → World → Prop) (fun _ w => K w) (fun v _ ih i w => StC w (ad.add i) v fun w' => ih (i + 1) w') vs i w
noncomputable def StX (ad : Addr) (l : List Value) (K : World → Prop) (w : World) : Prop := match l with
  | [v] => StC w ad v K
  | vs => StN ad 0 vs K w
theorem StX_StN {ad : Addr} {l : List Value} {K : World → Prop} {w : World} (h : StX ad l K w) : StN ad 0 l K w := by
  unfold StX at h
  split at h
  · exact h
  · exact h
def NewC (w : World) (o : Obj) (K : Nat → World → Prop) : Prop := K w.heap.size (w.alloc o)
theorem NewC_intro {w : World} {o : Obj} {K : Nat → World → Prop} (h : K w.heap.size (w.alloc o)) : NewC w o K := h
theorem NewC_elim {w : World} {o : Obj} {K : Nat → World → Prop} (h : NewC w o K) : K w.heap.size (w.alloc o) := h
attribute [irreducible] NewC
def RunC {α : Type} (P : Program) (s : Sem α) (w : World) (K : α → World → Prop) : Prop := ∃ v w', s.run P w = .ok v w' ∧ K v w'
theorem RunC_intro {α : Type} {P : Program} {s : Sem α} {w : World} {K : α → World → Prop} {v : α} {w' : World} (h : s.run P w = .ok v w') (k : K v w') : RunC P s w K := ⟨v, w', h, k⟩
theorem RunC_elim {α : Type} {P : Program} {s : Sem α} {w : World} {K : α → World → Prop} (h : RunC P s w K) : ∃ v w', s.run P w = .ok v w' ∧ K v w' := h
attribute [irreducible] RunC
def CallC (P : Program) (f : FuncId) (args : List Value) (w : World) (K : Value → World → Prop) : Prop := Calls P f args.toArray w fun e w' => ∃ v, e = .returned v ∧ K v w'
theorem CallC_intro {P : Program} {f : FuncId} {args : List Value} {w : World} {K : Value → World → Prop} {R : Value → World → Prop}
    (h : CallC P f args w R) (k : ∀ v w', R v w' → K v w') : CallC P f args w K :=
  Calls.mono h fun _ w' ⟨v, he, hr⟩ => ⟨v, he, k v w' hr⟩
theorem CallC_mk {P : Program} {f : FuncId} {args : List Value} {w : World} {K : Value → World → Prop} (h : Calls P f args.toArray w fun e w' => ∃ v, e = .returned v ∧ K v w') : CallC P f args w K := h
theorem CallC_elim {P : Program} {f : FuncId} {args : List Value} {w : World} {K : Value → World → Prop} (h : CallC P f args w K) : Calls P f args.toArray w fun e w' => ∃ v, e = .returned v ∧ K v w' := h
attribute [irreducible] CallC

def zerosR (m : Nat) (zero : List Value) : List Value := (List.range m).map fun x => zero.toArray[x % zero.toArray.size]!

noncomputable def effVC (P : Program) (T : Tab) (ρ : Env) (op : Op) (type : TypeId) (K : Value → World → Prop) (w : World) : Prop :=
  match op with
  | .load t x => (match look T.recs t, ev ρ x with
    | some q, some (.pointer (some ad)) => (match q.d.agg with
      | true => LdN w ad 0 q.size fun vs => K (.agg vs.toArray) w
      | false => LdC w ad fun v => K v w)
    | _, _ => False)
  | .store t x v => (match look T.recs t, ev ρ x, ev ρ v with
    | some q, some (.pointer (some ad)), some v => (match Nat.beq (cellsL v).length q.size with
      | true => StX ad (cellsL v) (K undef) w
      | false => False)
    | _, _, _ => False)
  | .alloc t => (match look T.recs t with
    | some q => NewC w (.cells q.zero.toArray t) fun b w' => K (.pointer (some ⟨b, 0, none⟩)) w'
    | none => False)
  | .box t x => (match ev ρ x with
    | some v => NewC w (.cells (cellsL v).toArray t) fun b w' => K (.pointer (some ⟨b, 0, none⟩)) w'
    | none => False)
  | .buildSlice t n parts => (match T.d t with
    | .slice e => (match look T.recs e with
      | some q => (match rowL [] q.size ρ parts.toList, Nat.ble (n * q.size) 16777216, Nat.beq (n * q.size) 0 with
        | some ps, true, false => (match ps.all (fun p => Nat.ble (p.1 + p.2.length) (n * q.size)) with
          | true => NewC w (.cells (fillL (zerosR (n * q.size) q.zero) ps).toArray e) fun b w' => K (.slice (some ⟨b, 0, none⟩) n n) w'
          | false => False)
        | some [], true, true => NewC w (.cells #[] e) fun b w' => K (.slice (some ⟨b, 0, none⟩) n n) w'
        | _, _, _ => False)
      | none => False)
    | _ => False)
  | .makeSlice t l c => (match ev ρ l, ev ρ c with
    | some l, some c => RunC P (Instr.makeSlice t l c) w K
    | _, _ => False)
  | .makeMap _ none => NewC w (.map #[] 0) fun b w' => K (.map (some b)) w'
  | .lookup t x i ok => (match ev ρ x, ev ρ i with
    | some x, some i => RunC P (Instr.lookup t x i ok) w K
    | _, _ => False)
  | .mapUpdate t m k x | .insert t m k x => (match ev ρ m, ev ρ k, ev ρ x with
    | some m, some k, some x => RunC P (Instr.mapUpdate t m k x) w fun _ w' => K undef w'
    | _, _, _ => False)
  | .mapEntry t m k => (match ev ρ m, ev ρ k with
    | some m, some k => RunC P (Instr.mapEntry t m k) w K
    | _, _ => False)
  | .entryStore t m k x => (match ev ρ m, ev ρ k, ev ρ x with
    | some m, some k, some x => RunC P (Instr.entryStore t m k x) w fun _ w' => K undef w'
    | _, _, _ => False)
  | .range t x => (match ev ρ x with | some x => RunC P (Instr.range t x) w K | none => False)
  | .next x s => (match ev ρ x with | some x => RunC P (Instr.next x s type) w K | none => False)
  | .entry x => (match ev ρ x with | some x => RunC P (Instr.entry x) w K | none => False)
  | .index t x i => (match ev ρ x, ev ρ i with
    | some x, some i => RunC P (Instr.index t x i) w K
    | _, _ => False)
  | .binOp op t x y _ => (match ev ρ x, ev ρ y with
    | some u, some v => RunC P (do eqGuard op t x y u v; binOp op t u v) w K
    | _, _ => False)
  | .convert s t x => (match ev ρ x with | some x => RunC P (convert s t x) w K | none => False)
  | .slice t x lo hi none => (match ev ρ x, lo, hi with
    | some x, none, none => RunC P (Instr.sliceAt t x none none none) w K
    | some x, some l, none => (match ev ρ l with | some l => RunC P (Instr.sliceAt t x (some l) none none) w K | none => False)
    | some x, none, some h => (match ev ρ h with | some h => RunC P (Instr.sliceAt t x none (some h) none) w K | none => False)
    | some x, some l, some h => (match ev ρ l, ev ρ h with | some l, some h => RunC P (Instr.sliceAt t x (some l) (some h) none) w K | _, _ => False)
    | _, _, _ => False)
  | .call { callee := .value f, args, argTypes := _ } => (match ev ρ f, evs ρ args.toList with
    | some (.func (.func g) first cap), some vs => (match has T.fns g with
      | true => CallC P g (first.toList ++ vs ++ cap.toList) w K
      | false => False)
    | _, _ => False)
  | .call { callee := .builtin b, args, argTypes } => (match b, evs ρ args.toList with
    | .append, some vs => RunC P (Builtin.append_ argTypes type vs.toArray) w K
    | .copy, some vs => RunC P (Builtin.copy_ argTypes type vs.toArray) w K
    | .clear, some vs => RunC P (Builtin.clear_ argTypes type vs.toArray) w K
    | .delete, some vs => RunC P (Builtin.delete_ argTypes type vs.toArray) w K
    | .len, some vs => RunC P (Builtin.len_ argTypes type vs.toArray) w K
    | .cap, some vs => RunC P (Builtin.cap_ argTypes type vs.toArray) w K
    | _, _ => False)
  | _ => False

section
variable {P : Program} {T : Tab} {n : Nat} {ρ : Env} {a : Act} {w : World} {next : Act → World → Prop} {Q : Exit → Act → World → Prop}

theorem upon_of {o : Oper} {K : Value → World → Prop} (hn : ∀ v w', K v w' → next (a.put o.dst v) w') {v : Value} {w' : World} (h : (execOp a.eval o).run P w = .ok (.value v) w') (k : K v w') : o.wp P a w next Q := by
  unfold Oper.wp; rw [h]; exact hn _ _ k
theorem upon_skip {o : Oper} {K : Value → World → Prop} (hn : ∀ v w', K v w' → next (a.put o.dst v) w') {w' : World} (h : (execOp a.eval o).run P w = .ok .skip w') (k : K undef w') : o.wp P a w next Q := by
  unfold Oper.wp; rw [h]; exact hn _ _ k

theorem LdN_run {ad : Addr} : ∀ (m i : Nat) (acc : List Value) (K : List Value → Prop), LdN w ad i m K →
    ∃ vs, K vs ∧ (loadCellsFrom ad i m acc.toArray).run P w = .ok (acc ++ vs).toArray w := by
  intro m
  induction m with
  | zero => intro i acc K h; exact ⟨[], h, by simp [loadCellsFrom]⟩
  | succ m ih =>
    intro i acc K h
    obtain ⟨v, hv, hk⟩ := LdC_elim h
    obtain ⟨vs, hvs, hr⟩ := ih (i + 1) (acc ++ [v]) _ hk
    refine ⟨v :: vs, hvs, ?_⟩
    simp only [loadCellsFrom, Sem.run_bind, run_load, hv, Result.andThen_ok]
    have : acc.toArray.push v = (acc ++ [v]).toArray := by simp
    rw [this, hr]; simp
theorem StN_run {ad : Addr} {K : World → Prop} : ∀ (vs : List Value) (i : Nat) (w : World), StN ad i vs K w →
    ∃ w', K w' ∧ (storeCells ad vs i).run P w = .ok () w' := by
  intro vs
  induction vs with
  | nil => intro i w h; exact ⟨w, h, rfl⟩
  | cons v vs ih =>
    intro i w h
    obtain ⟨h1, ⟨u, h2⟩, h3, h4⟩ := StC_elim h
    obtain ⟨w', hk, hr⟩ := ih (i + 1) _ h4
    exact ⟨w', hk, by simp only [storeCells, Sem.run_bind, run_store P w _ v .plain h1, h2, h3, Bool.false_eq_true, if_false, Result.andThen_ok, hr]⟩

theorem evs_map (hρ : ρ.Ok n a) {xs : Array Operand} {vs : List Value} (h : evs ρ xs.toList = some vs) : xs.map a.eval = vs.toArray :=
  Array.toList_inj.1 (by simpa using hρ.evs h)

theorem eff_sound (hT : T.Ok P) (hρ : ρ.Ok n a) {o : Oper} {K : Value → World → Prop} (hn : ∀ v w', K v w' → next (a.put o.dst v) w')
    (h : effVC P T ρ o.op o.type K w) : o.wp P a w next Q := by
  obtain ⟨dst, op, type, pos, after, guard⟩ := o
  simp only at h hn
  cases op with
  | load t x =>
    simp only [effVC] at h
    split at h
    · rename_i q ad h1 h2
      have hagg := look_isAgg hT h1
      cases hq : q.d.agg with
      | true =>
        rw [hq] at h hagg
        obtain ⟨vs, hk, hr⟩ := LdN_run (P := P) q.size 0 [] _ h
        refine upon_of hn ?_ hk
        simp only [List.nil_append] at hr
        simp [execOp, hρ.ev h2, Instr.loadAt, Instr.sureAddr, loadVar, hagg, look_size hT h1, loadCells, hr]
      | false =>
        rw [hq] at h hagg
        obtain ⟨v, hv, hk⟩ := LdC_elim h
        refine upon_of hn ?_ hk
        simp [execOp, hρ.ev h2, Instr.loadAt, Instr.sureAddr, loadVar, hagg, hv]
    · exact h.elim
  | store t x v =>
    simp only [effVC] at h
    split at h
    · rename_i q ad v' h1 h2 h3
      cases hb : Nat.beq (cellsL v').length q.size with
      | false => rw [hb] at h; exact h.elim
      | true =>
        rw [hb] at h
        have hb := Nat.eq_of_beq_eq_true hb
        have h : StN ad 0 (cellsL v') (K undef) w := by
          exact StX_StN h
        obtain ⟨w', hk, hr⟩ := StN_run (P := P) _ _ _ h
        refine upon_skip hn ?_ hk
        have hsz : v'.cells.size = q.size := by rw [← Array.length_toList, cells_eq, hb]
        simp [execOp, hρ.ev h2, hρ.ev h3, Instr.storeAt, Instr.sureAddr, storeVar, look_size hT h1, hsz, cells_eq, hr]
    · exact h.elim
  | alloc t =>
    simp only [effVC] at h
    split at h
    · rename_i q h1
      have h := NewC_elim h
      obtain ⟨z, hz, hzr⟩ := look_zero hT h1
      refine upon_of hn ?_ h
      have hzz : z.cells = q.zero.toArray := Array.toList_inj.1 (by simpa using hz)
      simp [execOp, Instr.alloc, hzr, newVar, newRow, hzz]
    · exact h.elim
  | box t x =>
    simp only [effVC] at h
    split at h
    · rename_i v h1
      have h := NewC_elim h
      refine upon_of hn ?_ h
      have hzz : v.cells = (cellsL v).toArray := Array.toList_inj.1 (by simpa using cells_eq v)
      simp [execOp, Instr.box, newVar, newRow, hzz, hρ.ev h1]
    · exact h.elim
  | buildSlice t m parts =>
    simp only [effVC] at h
    split at h
    · rename_i e h1
      split at h
      · rename_i q h2
        obtain ⟨z, hz, hzr⟩ := look_zero hT h2
        have hzz : z.cells = q.zero.toArray := Array.toList_inj.1 (by simpa using hz)
        have hpe : (parts.map fun (x : Nat × Operand) => match x with | (i, x) => (i, a.eval x)).toList = parts.toList.map fun p => (p.1, a.eval p.2) := by simp
        split at h
        · rename_i ps h3 h4 h5
          cases h6 : ps.all (fun p => Nat.ble (p.1 + p.2.length) (m * q.size)) with
          | false => rw [h6] at h; exact h.elim
          | true =>
            rw [h6] at h
            have h := NewC_elim h
            refine upon_of hn ?_ h
            have hle := Nat.le_of_ble_eq_true h4
            have hne : ¬ m * q.size = 0 := fun e => by rw [e] at h5; cases h5
            have hzl : (zerosR (m * q.size) q.zero).length = m * q.size := by simp [zerosR]
            have hfill := fill_ok (fun i => some (i * q.size, q.size)) _ ps (zerosR (m * q.size) q.zero) (rowL_ok hρ q.size parts.toList ps h3) (by rw [hzl]; exact h6)
            have hle' : ¬ m * q.size > 2 ^ 24 := by omega
            have hzt : (zerosR (m * q.size) q.zero).toArray = (Array.range (m * q.size)).map (q.zero.toArray[· % q.zero.toArray.size]!) := by apply Array.toList_inj.1; simp only [zerosR, Array.toList_map, Array.toList_range]
            rw [hzt] at hfill
            simp only [execOp, Instr.buildSlice, Sem.run_bind, run_underlying (und_slice hT h1), Result.andThen_ok, look_size hT h2, Sem.run_pure, hpe, hne, hle', if_false, Sem.run_ite, hzr, hzz, hfill, newRow, run_newObj]
            rfl
        · rename_i h3 h4 h5
          have h := NewC_elim h
          refine upon_of hn ?_ h
          have h0 := Nat.eq_of_beq_eq_true h5
          have hp : parts.toList = [] := by
            cases hl : parts.toList with
            | nil => rfl
            | cons p l =>
              obtain ⟨i, x⟩ := p
              rw [hl] at h3
              simp only [rowL] at h3
              split at h3
              · split at h3 <;> simp at h3
              · cases h3
          have hp' : parts = #[] := Array.toList_inj.1 (by simpa using hp)
          subst hp'
          simp [execOp, Instr.buildSlice, run_underlying (und_slice hT h1), look_size hT h2, h0, Instr.fill, newRow]
          have hz0 : ∀ f : Nat → Value, Array.map f (Array.range 0) = #[] := fun f => Array.toList_inj.1 (by simp only [Array.toList_map, Array.toList_range, List.range_zero, List.map_nil])
          rw [hz0]
        · exact h.elim
      · exact h.elim
    · exact h.elim
  | makeSlice t l c =>
    simp only [effVC] at h
    split at h
    · rename_i l' c' h1 h2
      obtain ⟨v, w', hr, hk⟩ := RunC_elim h
      exact upon_of hn (by simp [execOp, hρ.ev h1, hρ.ev h2, hr]) hk
    · exact h.elim
  | makeMap t r =>
    cases r with
    | some r => exact h.elim
    | none =>
      have h := NewC_elim (show NewC _ _ _ from h)
      exact upon_of hn (by simp [execOp, Instr.makeMap]) h
  | lookup t x i ok =>
    simp only [effVC] at h
    split at h
    · rename_i x' i' h1 h2
      obtain ⟨v, w', hr, hk⟩ := RunC_elim h
      exact upon_of hn (by simp [execOp, hρ.ev h1, hρ.ev h2, hr]) hk
    · exact h.elim
  | mapUpdate t m k x =>
    simp only [effVC] at h
    split at h
    · rename_i m' k' x' h1 h2 h3
      obtain ⟨v, w', hr, hk⟩ := RunC_elim h
      exact upon_skip hn (by simp [execOp, hρ.ev h1, hρ.ev h2, hρ.ev h3, hr]) hk
    · exact h.elim
  | insert t m k x =>
    simp only [effVC] at h
    split at h
    · rename_i m' k' x' h1 h2 h3
      obtain ⟨v, w', hr, hk⟩ := RunC_elim h
      exact upon_skip hn (by simp [execOp, hρ.ev h1, hρ.ev h2, hρ.ev h3, hr]) hk
    · exact h.elim
  | mapEntry t m k =>
    simp only [effVC] at h
    split at h
    · rename_i m' k' h1 h2
      obtain ⟨v, w', hr, hk⟩ := RunC_elim h
      exact upon_of hn (by simp [execOp, hρ.ev h1, hρ.ev h2, hr]) hk
    · exact h.elim
  | entryStore t m k x =>
    simp only [effVC] at h
    split at h
    · rename_i m' k' x' h1 h2 h3
      obtain ⟨v, w', hr, hk⟩ := RunC_elim h
      exact upon_skip hn (by simp [execOp, hρ.ev h1, hρ.ev h2, hρ.ev h3, hr]) hk
    · exact h.elim
  | range t x =>
    simp only [effVC] at h
    split at h
    · rename_i x' h1
      obtain ⟨v, w', hr, hk⟩ := RunC_elim h
      exact upon_of hn (by simp [execOp, hρ.ev h1, hr]) hk
    · exact h.elim
  | next x s =>
    simp only [effVC] at h
    split at h
    · rename_i x' h1
      obtain ⟨v, w', hr, hk⟩ := RunC_elim h
      exact upon_of hn (by simp [execOp, hρ.ev h1, hr]) hk
    · exact h.elim
  | entry x =>
    simp only [effVC] at h
    split at h
    · rename_i x' h1
      obtain ⟨v, w', hr, hk⟩ := RunC_elim h
      exact upon_of hn (by simp [execOp, hρ.ev h1, hr]) hk
    · exact h.elim
  | index t x i =>
    simp only [effVC] at h
    split at h
    · rename_i x' i' h1 h2
      obtain ⟨v, w', hr, hk⟩ := RunC_elim h
      exact upon_of hn (by simp [execOp, hρ.ev h1, hρ.ev h2, hr]) hk
    · exact h.elim
  | binOp op t x y u =>
    simp only [effVC] at h
    split at h
    · rename_i x' y' h1 h2
      obtain ⟨v, w', hr, hk⟩ := RunC_elim h
      refine upon_of hn ?_ hk
      simp only [execOp, hρ.ev h1, hρ.ev h2]
      rw [Sem.run_bind, hr]; rfl
    · exact h.elim
  | convert s t x =>
    simp only [effVC] at h
    split at h
    · rename_i x' h1
      obtain ⟨v, w', hr, hk⟩ := RunC_elim h
      exact upon_of hn (by simp [execOp, hρ.ev h1, hr]) hk
    · exact h.elim
  | slice t x lo hi mx =>
    cases mx with
    | some m => exact h.elim
    | none =>
      simp only [effVC] at h
      split at h
      · rename_i x' h1
        obtain ⟨v, w', hr, hk⟩ := RunC_elim h
        exact upon_of hn (by simp [execOp, hρ.ev h1, hr]) hk
      · rename_i x' l h1
        split at h
        · rename_i l' h2
          obtain ⟨v, w', hr, hk⟩ := RunC_elim h
          exact upon_of hn (by simp [execOp, hρ.ev h1, hρ.ev h2, hr]) hk
        · exact h.elim
      · rename_i x' l h1
        split at h
        · rename_i l' h2
          obtain ⟨v, w', hr, hk⟩ := RunC_elim h
          exact upon_of hn (by simp [execOp, hρ.ev h1, hρ.ev h2, hr]) hk
        · exact h.elim
      · rename_i x' l hh h1
        split at h
        · rename_i l' h' h2 h3
          obtain ⟨v, w', hr, hk⟩ := RunC_elim h
          exact upon_of hn (by simp [execOp, hρ.ev h1, hρ.ev h2, hρ.ev h3, hr]) hk
        · exact h.elim
      · exact h.elim
  | call c =>
    obtain ⟨callee, args, argTypes⟩ := c
    cases callee with
    | invoke r m => exact h.elim
    | value f =>
      simp only [effVC] at h
      split at h
      · rename_i g first cap vs h1 h2
        cases h3 : has T.fns g with
        | false => rw [h3] at h; exact h.elim
        | true =>
          rw [h3] at h
          obtain ⟨fn, f1, f2, f3⟩ := hT.fns g h3
          have h := CallC_elim h
          have e1 := evs_map hρ h2
          unfold Oper.wp
          have : (execOp a.eval { dst, op := .call { callee := .value f, args, argTypes }, type, pos, after, guard }).run P w = .ok (.enter g (first.toList ++ vs ++ cap.toList).toArray) w := by
            have f2' : ¬ fn.name = "runtime.NumGoroutine" := by simpa using f2
            have f3' : fn.body ≠ none := by intro e; rw [e] at f3; cases f3
            have ea : first ++ vs.toArray ++ cap = (first.toList ++ vs ++ cap.toList).toArray := by apply Array.toList_inj.1; simp
            simp only [execOp, resolve, hρ.ev h1, Deferred.ofValue, e1, Sem.run_bind, Sem.run_pure, Result.andThen_ok, invoke, callFunc, run_program, f1]
            simp [f2', f3']
          rw [this]
          refine Calls.mono h ?_
          rintro e w' ⟨v, rfl, hk⟩
          exact hn v w' hk
      · exact h.elim
    | builtin b =>
      simp only [effVC] at h
      split at h <;> first
        | exact h.elim
        | (rename_i vs h1
           obtain ⟨v, w', hr, hk⟩ := RunC_elim h
           have e1 := evs_map hρ h1
           exact upon_of hn (by simp [execOp, resolve, invoke, builtin, e1, hr]) hk)
  | _ => exact h.elim
theorem LdN_zero' {w : World} {ad : Addr} {i : Nat} {K : List Value → Prop} (h : K []) : LdN w ad i 0 K := h
theorem LdN_cons' {w : World} {ad : Addr} {i n : Nat} {K : List Value → Prop} (h : LdC w (ad.add i) fun v => LdN w ad (i + 1) n fun vs => K (v :: vs)) : LdN w ad i (n + 1) K := h
theorem StN_zero' {w : World} {ad : Addr} {i : Nat} {K : World → Prop} (h : K w) : StN ad i [] K w := h
theorem StN_cons' {w : World} {ad : Addr} {i : Nat} {v : Value} {vs : List Value} {K : World → Prop} (h : StC w (ad.add i) v fun w' => StN ad (i + 1) vs K w') : StN ad i (v :: vs) K w := h
attribute [irreducible] LdN StN
end
end Go.Vc
/- The rules for statements: regions, branches, blocks, loops, calls. -/
namespace Go.Vc

noncomputable def opVC (P : Program) (T : Tab) (ρ : Env) (op : Op) (type : TypeId) (K : Value → World → Prop) (w : World) : Prop :=
  match isPure T op with
  | true => pureVC T ρ op fun v => K v w
  | false => effVC P T ρ op type K w
noncomputable def dstOf (ops : List Oper) (j : Nat) : Option Nat := match ops[j]? with | some o => o.dst | none => none
def gd (want : Bool) (b : Bool) (x y : Prop) : Prop := match want, b with | true, true => x | false, false => x | _, _ => y
def gdO (all : List Oper) (o : Oper) (ρ : Env) (run skip : Env → Prop) : Prop :=
  match o.guard with
  | none => run ρ
  | some (j, want) => match dstOf all j with
    | none => False
    | some d => match look ρ d with
      | some (.bool b) => Br b
          (gd want true (run ((d, .bool true) :: ρ)) (skip ((d, .bool true) :: ρ)))
          (gd want false (run ((d, .bool false) :: ρ)) (skip ((d, .bool false) :: ρ)))
      | some (.tuple _) => skip ρ
      | _ => False
noncomputable def opsVC (P : Program) (T : Tab) (all l : List Oper) : Env → World → (Env → World → Prop) → Prop :=
  List.rec (motive := fun _ => Env → World → (Env → World → Prop) → Prop)
    (fun ρ w K => K ρ w)
    (fun o _ ih ρ w K => gdO all o ρ (fun σ => opVC P T σ o.op o.type (fun v w' => ih (Env.put σ o.dst v) w' K) w) (fun σ => ih (Env.put σ o.dst undef) w K)) l
theorem opsVC_cons {P : Program} {T : Tab} {all rest : List Oper} {o : Oper} {ρ : Env} {w : World} {K : Env → World → Prop} : opsVC P T all (o :: rest) ρ w K =
  gdO all o ρ (fun σ => opVC P T σ o.op o.type (fun v w' => opsVC P T all rest (Env.put σ o.dst v) w' K) w) (fun σ => opsVC P T all rest (Env.put σ o.dst undef) w K) := rfl

/-- The goal is written down as it stands, so that the kernel need not find it out once more. -/
theorem Kp {p : Prop} (h : p) : p := h
inductive Ex where
  | norm | exit (id : Nat) | ret
def LoopC (body : Env → World → (Ex → Env → World → Prop) → Prop) (ρ : Env) (w : World) (K : Ex → Env → World → Prop) : Prop :=
  ∃ (I : Nat → Env → World → Prop) (m : Nat) (σ : Env), Sub σ ρ ∧ I m σ w ∧
    ∀ m ρ' w', I m ρ' w' → body ρ' w' fun e ρ'' w'' => match e with
      | .norm => ∃ m' σ', m' < m ∧ Sub σ' ρ'' ∧ I m' σ' w''
      | .exit i => K (.exit i) ρ'' w''
      | .ret => K .ret ρ'' w''
theorem LoopC_intro {α : Type} {body : Env → World → (Ex → Env → World → Prop) → Prop} {ρ : Env} {w : World} {K : Ex → Env → World → Prop}
    (mk : α → Env) (J : Nat → α → World → Prop) (m : Nat) (x : α) (hs : Sub (mk x) ρ) (h0 : J m x w)
    (step : ∀ m x w', J m x w' → body (mk x) w' fun e ρ'' w'' => match e with
      | .norm => ∃ m' σ', m' < m ∧ Sub σ' ρ'' ∧ ∃ x', σ' = mk x' ∧ J m' x' w''
      | .exit i => K (.exit i) ρ'' w''
      | .ret => K .ret ρ'' w'') : LoopC body ρ w K :=
  ⟨fun m σ w' => ∃ x, σ = mk x ∧ J m x w', m, mk x, hs, ⟨x, rfl, h0⟩, fun m _ w' ⟨x, e, hj⟩ => by subst e; exact step m x w' hj⟩
theorem LoopC_elim {body : Env → World → (Ex → Env → World → Prop) → Prop} {ρ : Env} {w : World} {K : Ex → Env → World → Prop} (h : LoopC body ρ w K) :
  ∃ (I : Nat → Env → World → Prop) (m : Nat) (σ : Env), Sub σ ρ ∧ I m σ w ∧
    ∀ m ρ' w', I m ρ' w' → body ρ' w' fun e ρ'' w'' => match e with
      | .norm => ∃ m' σ', m' < m ∧ Sub σ' ρ'' ∧ I m' σ' w''
      | .exit i => K (.exit i) ρ'' w''
      | .ret => K .ret ρ'' w'' := h
attribute [irreducible] LoopC
/-- The end of a round. -/
theorem next_round {α : Type} {mk : α → Env} {J : Nat → α → World → Prop} {m : Nat} {ρ : Env} {w : World} (m' : Nat) (x : α) (hm : m' < m) (hs : Sub (mk x) ρ) (hj : J m' x w) :
    ∃ m' σ', m' < m ∧ Sub σ' ρ ∧ ∃ x', σ' = mk x' ∧ J m' x' w := ⟨m', mk x, hm, hs, x, rfl, hj⟩

/-- A region whose order the language leaves open: told in VcF. -/
def AnyC (P : Program) (ops : Array Oper) (ρ : Env) (w : World) (K : Env → World → Prop) : Prop :=
  ∀ n (a : Act) (Q : Exit → Act → World → Prop), ρ.Ok n a → (∀ o ∈ ops.toList, ∀ d, o.dst = some d → d < n) → (∀ ρ' a' w', ρ'.Ok n a' → K ρ' w' → Q .normal a' w') → (∀ e a w, Q e a w → e = .normal ∨ (∃ i, e = .exit i) ∨ e = .ret) →
    ∀ id, (Code.region id ops true).wp P Q a w
theorem AnyC_elim {P : Program} {ops : Array Oper} {ρ : Env} {w : World} {K : Env → World → Prop} (h : AnyC P ops ρ w K) :
  ∀ n (a : Act) (Q : Exit → Act → World → Prop), ρ.Ok n a → (∀ o ∈ ops.toList, ∀ d, o.dst = some d → d < n) → (∀ ρ' a' w', ρ'.Ok n a' → K ρ' w' → Q .normal a' w') → (∀ e a w, Q e a w → e = .normal ∨ (∃ i, e = .exit i) ∨ e = .ret) →
    ∀ id, (Code.region id ops true).wp P Q a w := h
theorem AnyC_mk {P : Program} {ops : Array Oper} {ρ : Env} {w : World} {K : Env → World → Prop}
    (h : ∀ n (a : Act) (Q : Exit → Act → World → Prop), ρ.Ok n a → (∀ o ∈ ops.toList, ∀ d, o.dst = some d → d < n) → (∀ ρ' a' w', ρ'.Ok n a' → K ρ' w' → Q .normal a' w') → (∀ e a w, Q e a w → e = .normal ∨ (∃ i, e = .exit i) ∨ e = .ret) →
    ∀ id, (Code.region id ops true).wp P Q a w) : AnyC P ops ρ w K := h
attribute [irreducible] AnyC

def asn (c : Operand) (b : Bool) (ρ : Env) : Env := match c with | .tmp t => (t, .bool b) :: ρ | _ => ρ
noncomputable def codeVC (P : Program) (T : Tab) (c : Code) : Env → World → (Ex → Env → World → Prop) → Prop :=
  Code.rec (motive := fun _ => Env → World → (Ex → Env → World → Prop) → Prop)
    (fun ρ w K => K .norm ρ w)
    (fun _ ops draw ρ w K => Bool.rec (opsVC P T ops.toList ops.toList ρ w (K .norm)) (AnyC P ops ρ w (K .norm)) draw)
    (fun _ _ ia ib ρ w K => ia ρ w fun e ρ' w' => Ex.rec (ib ρ' w' K) (fun i => K (.exit i) ρ' w') (K .ret ρ' w') e)
    (fun c _ _ ix iy ρ w K => match ev ρ c with
      | some (.bool b) => Br b (ix (asn c true ρ) w K) (iy (asn c false ρ) w K)
      | _ => False)
    (fun id _ ib ρ w K => ib ρ w fun e ρ' w' => Ex.rec (K .norm ρ' w') (fun i => Bool.rec (K (.exit i) ρ' w') (K .norm ρ' w') (Nat.beq i id)) (K .ret ρ' w') e)
    (fun _ ib ρ w K => LoopC ib ρ w K)
    (fun _ _ _ _ _ _ _ _ _ => False)
    (fun id ρ w K => K (.exit id) ρ w)
    (fun _ _ _ _ _ => False)
    (fun _ ρ w K => K .norm ρ w)
    (fun _ _ _ _ => False)
    (fun ρ w K => K .ret ρ w)
    (fun _ _ _ _ => False) c
theorem codeVC_seq' {P : Program} {T : Tab} {a b : Code} {ρ : Env} {w : World} {K : Ex → Env → World → Prop} : codeVC P T (.seq a b) ρ w K = codeVC P T a ρ w fun e ρ' w' => match e with
    | .norm => codeVC P T b ρ' w' K
    | .exit i => K (.exit i) ρ' w'
    | .ret => K .ret ρ' w' := by
  show codeVC P T a ρ w _ = _
  congr 1
  funext e ρ' w'
  cases e <;> rfl
theorem codeVC_cond' {P : Program} {T : Tab} {c : Operand} {x y : Code} {ρ : Env} {w : World} {K : Ex → Env → World → Prop} : codeVC P T (.cond c x y) ρ w K = match ev ρ c with
    | some (.bool b) => Br b (codeVC P T x (asn c true ρ) w K) (codeVC P T y (asn c false ρ) w K)
    | _ => False := rfl
theorem codeVC_block' {P : Program} {T : Tab} {id : Nat} {b : Code} {ρ : Env} {w : World} {K : Ex → Env → World → Prop} : codeVC P T (.block id b) ρ w K = codeVC P T b ρ w fun e ρ' w' => match e with
    | .norm => K .norm ρ' w'
    | .exit i => (match Nat.beq i id with | true => K .norm ρ' w' | false => K (.exit i) ρ' w')
    | .ret => K .ret ρ' w' := by
  show codeVC P T b ρ w _ = _
  congr 1
  funext e ρ' w'
  cases e with
  | norm => rfl
  | ret => rfl
  | exit i => show (Bool.rec (K (.exit i) ρ' w') (K .norm ρ' w') (Nat.beq i id) : Prop) = match Nat.beq i id with | true => K .norm ρ' w' | false => K (.exit i) ρ' w'; cases Nat.beq i id <;> rfl
/-- Every variable that is written lies in the frame. -/
def dstsOk (n : Nat) (ops : List Oper) : Bool := ops.all fun o => match o.dst with | some d => Nat.blt d n | none => true
def codeOk (n : Nat) : Code → Bool
  | .region _ ops _ => dstsOk n ops.toList
  | .seq a b | .cond _ a b => codeOk n a && codeOk n b
  | .block _ b | .loop b => codeOk n b
  | _ => true

def resV1 (T : Tab) (ρ : Env) (w : World) (x : ResultVar) (K : Value → Prop) : Prop :=
  match x with
  | .tmp t => W (look ρ t) K
  | .cell x t => (match look T.recs t, look ρ x with
    | some q, some (.pointer (some ad)) => (match q.d.agg with
      | true => LdN w ad 0 q.size fun vs => K (.agg vs.toArray)
      | false => LdC w ad K)
    | _, _ => False)
noncomputable def resVC (T : Tab) (ρ : Env) (w : World) (rs : List ResultVar) (K : List Value → Prop) : Prop :=
  List.rec (motive := fun _ => (List Value → Prop) → Prop) (fun K => K []) (fun x _ ih K => resV1 T ρ w x fun v => ih fun vs => K (v :: vs)) rs K
theorem resVC_cons' {T : Tab} {ρ : Env} {w : World} {x : ResultVar} {r : List ResultVar} {K : List Value → Prop} : resVC T ρ w (x :: r) K = resV1 T ρ w x fun v => resVC T ρ w r fun vs => K (v :: vs) := rfl
def one : List Value → Value
  | [v] => v
  | vs => .tuple vs.toArray
noncomputable def envOf (vs : List Value) (i : Nat) : Env := List.rec (motive := fun _ => Nat → Env) (fun _ => []) (fun v _ ih i => (i, v) :: ih (i + 1)) vs i
theorem envOf_cons' {v : Value} {vs : List Value} {i : Nat} : envOf (v :: vs) i = (i, v) :: envOf vs (i + 1) := rfl

section
variable {P : Program} {T : Tab} {n : Nat}

theorem op_sound (hT : T.Ok P) {ρ : Env} {a : Act} {w : World} {next : Act → World → Prop} {Q : Exit → Act → World → Prop} (hρ : ρ.Ok n a) {o : Oper} {K : Value → World → Prop}
    (hn : ∀ v w', K v w' → next (a.put o.dst v) w') (h : opVC P T ρ o.op o.type K w) : o.wp P a w next Q := by
  unfold opVC at h
  cases hp : isPure T o.op with
  | true =>
    rw [hp] at h
    obtain ⟨v, hk, hr⟩ := pure_sound hT hρ hp h
    exact upon_of hn (hr w) hk
  | false => rw [hp] at h; exact eff_sound hT hρ hn h

theorem yielded_eq {ops : Array Oper} {ρ : Env} {a : Act} (hρ : ρ.Ok n a) {j d : Nat} {b : Bool} (hd : dstOf ops.toList j = some d) (hl : look ρ d = some (.bool b)) : yielded ops a.tmps j = some b := by
  have h1 := hρ.get d _ hl
  unfold dstOf at hd
  unfold yielded
  cases ho : ops.toList[j]? with
  | none => rw [ho] at hd; cases hd
  | some o =>
    rw [ho] at hd
    have ho' : ops[j]? = some o := by simpa using ho
    simp at hd
    rw [ho']
    simp [hd, h1]

theorem yielded_no {ops : Array Oper} {ρ : Env} {a : Act} (hρ : ρ.Ok n a) {j d : Nat} {vs : Array Value} (hd : dstOf ops.toList j = some d) (hl : look ρ d = some (.tuple vs)) : yielded ops a.tmps j = none := by
  have h1 := hρ.get d _ hl
  unfold dstOf at hd
  unfold yielded
  cases ho : ops.toList[j]? with
  | none => rw [ho] at hd; cases hd
  | some o =>
    rw [ho] at hd
    have ho' : ops[j]? = some o := by simpa using ho
    simp at hd
    rw [ho']
    simp [hd, h1]
theorem gd_tt {x y : Prop} : gd true true x y = x := rfl
theorem gd_ff {x y : Prop} : gd false false x y = x := rfl
theorem gd_tf {x y : Prop} : gd true false x y = y := rfl
theorem gd_ft {x y : Prop} : gd false true x y = y := rfl

theorem ops_sound (hT : T.Ok P) {ops : Array Oper} {Q : Exit → Act → World → Prop} {K : Env → World → Prop} (hQ : ∀ ρ' a' w', Env.Ok n ρ' a' → K ρ' w' → Q .normal a' w') :
    ∀ (rest : List Oper), (∀ o ∈ rest, ∀ d, o.dst = some d → d < n) → ∀ (ρ : Env) (a : Act) (w : World), ρ.Ok n a → opsVC P T ops.toList rest ρ w K → wpList P ops Q rest a w := by
  intro rest
  induction rest with
  | nil => intro _ ρ a w hρ h; exact hQ _ _ _ hρ h
  | cons o rest ih =>
    intro hd ρ a w hρ h
    have hd1 := hd o List.mem_cons_self
    have ih := ih (fun o ho => hd o (List.mem_cons_of_mem _ ho))
    have run : ∀ (σ : Env), σ.Ok n a → Region.wanted o (yielded ops a.tmps) = true → opVC P T σ o.op o.type (fun v w' => opsVC P T ops.toList rest (σ.put o.dst v) w' K) w → wpList P ops Q (o :: rest) a w := by
      intro σ hσ hw h
      unfold wpList
      rw [if_pos hw]
      refine .inl (op_sound hT hσ (fun v w' hk => ih _ _ _ (hσ.put hd1 v) hk) h)
    have skip : ∀ (σ : Env), σ.Ok n a → Region.wanted o (yielded ops a.tmps) = false → opsVC P T ops.toList rest (σ.put o.dst undef) w K → wpList P ops Q (o :: rest) a w := by
      intro σ hσ hw h
      unfold wpList
      rw [hw, if_neg (by simp)]
      exact ih _ _ _ (hσ.put hd1 undef) h
    rw [opsVC_cons] at h
    unfold gdO at h
    split at h
    · rename_i hg
      exact run ρ hρ (by simp [Region.wanted, hg]) h
    · rename_i j want hg
      split at h
      · exact h.elim
      · rename_i d hdo
        split at h
        · rename_i b hl
          have hy := yielded_eq hρ hdo hl
          have hσ : ∀ c, b = c → Env.Ok n ((d, .bool c) :: ρ) a := fun c e => hρ.same (by rw [hl, e])
          cases b <;> cases want
          · exact run _ (hσ false rfl) (by simp [Region.wanted, hg, hy]) h
          · exact skip _ (hσ false rfl) (by simp [Region.wanted, hg, hy]) h
          · exact skip _ (hσ true rfl) (by simp [Region.wanted, hg, hy]) h
          · exact run _ (hσ true rfl) (by simp [Region.wanted, hg, hy]) h
        · rename_i hl
          exact skip ρ hρ (by simp [Region.wanted, hg, yielded_no hρ hdo hl]) h
        · exact h.elim

theorem dsts_of {ops : List Oper} (h : dstsOk n ops = true) : ∀ o ∈ ops, ∀ d, o.dst = some d → d < n := by
  intro o ho d hd
  have := List.all_eq_true.1 h o ho
  rw [hd] at this
  exact Nat.le_of_ble_eq_true (show Nat.ble (d + 1) n = true from this)

/-- The endings as the model has them. -/
def QOf (n : Nat) (K : Ex → Env → World → Prop) : Exit → Act → World → Prop
  | .normal, a, w => ∃ ρ, Env.Ok n ρ a ∧ K .norm ρ w
  | .exit i, a, w => ∃ ρ, Env.Ok n ρ a ∧ K (.exit i) ρ w
  | .ret, a, w => ∃ ρ, Env.Ok n ρ a ∧ K .ret ρ w
  | _, _, _ => False

theorem code_sound (hT : T.Ok P) : ∀ (c : Code), codeOk n c = true → ∀ (K : Ex → Env → World → Prop) (ρ : Env) (a : Act) (w : World), ρ.Ok n a → codeVC P T c ρ w K → c.wp P (QOf n K) a w := by
  intro c
  induction c with
  | skip => intro _ K ρ a w hρ h; exact wp_skip ⟨ρ, hρ, h⟩
  | label l => intro _ K ρ a w hρ h; exact wp_label ⟨ρ, hρ, h⟩
  | exit id => intro _ K ρ a w hρ h; exact wp_exit ⟨ρ, hρ, h⟩
  | ret => intro _ K ρ a w hρ h; exact wp_ret ⟨ρ, hρ, h⟩
  | region id ops draw =>
    intro hok K ρ a w hρ h
    cases draw with
    | false => exact wp_region_list (ops_sound hT (Q := QOf n K) (K := K .norm) (fun ρ' a' w' h1 h2 => ⟨ρ', h1, h2⟩) ops.toList (dsts_of hok) ρ a w hρ h)
    | true =>
      refine AnyC_elim h n a (QOf n K) hρ (dsts_of hok) (fun ρ' a' w' h1 h2 => ⟨ρ', h1, h2⟩) ?_ id
      intro e a w hq
      cases e <;> first | exact .inl rfl | exact .inr (.inl ⟨_, rfl⟩) | exact .inr (.inr rfl) | exact hq.elim
  | seq x y ihx ihy =>
    intro hok K ρ a w hρ h
    simp only [codeOk, Bool.and_eq_true] at hok
    rw [codeVC_seq'] at h
    refine wp_seq (Code.wp_mono ?_ (ihx hok.1 _ ρ a w hρ h))
    intro e a w hq
    cases e with
    | normal => obtain ⟨σ, h1, h2⟩ := hq; exact ihy hok.2 K σ a w h1 h2
    | exit i => exact hq
    | ret => exact hq
    | _ => exact hq.elim
  | cond c x y ihx ihy =>
    intro hok K ρ a w hρ h
    simp only [codeOk, Bool.and_eq_true] at hok
    rw [codeVC_cond'] at h
    split at h
    · rename_i b hc
      have hs : ∀ t, b = t → Env.Ok n (asn c t ρ) a := by
        intro t e
        subst e
        cases c with
        | tmp t => exact hρ.same hc
        | _ => exact hρ
      refine wp_cond (hρ.ev hc) ?_
      cases b
      · exact ihy hok.2 K _ a w (hs false rfl) h
      · exact ihx hok.1 K _ a w (hs true rfl) h
    · exact h.elim
  | block id b ih =>
    intro hok K ρ a w hρ h
    rw [codeVC_block'] at h
    refine wp_block (Code.wp_mono ?_ (ih hok _ ρ a w hρ h))
    intro e a w hq
    cases e with
    | normal => exact hq
    | exit i =>
      obtain ⟨σ, h1, h2⟩ := hq
      simp only [Exit.inBlock]
      cases hb : Nat.beq i id with
      | true => simp only [hb] at h2; rw [if_pos (Nat.eq_of_beq_eq_true hb)]; exact ⟨σ, h1, h2⟩
      | false => simp only [hb] at h2; rw [if_neg (Nat.ne_of_beq_eq_false hb)]; exact ⟨σ, h1, h2⟩
    | ret => exact hq
    | _ => exact hq.elim
  | loop b ih =>
    intro hok K ρ a w hρ h
    obtain ⟨I, m, σ, hs, h0, step⟩ := LoopC_elim h
    refine wp_loop_ghost (fun m a w => ∃ ρ', Env.Ok n ρ' a ∧ I m ρ' w) m ⟨σ, hρ.sub hs, h0⟩ ?_
    intro m a w ⟨ρ', h1, h2⟩
    refine Code.wp_mono ?_ (ih hok _ ρ' a w h1 (step m ρ' w h2))
    intro e a w hq
    cases e with
    | normal => obtain ⟨τ, h3, m', σ', hm, hsub, hI⟩ := hq; exact ⟨m', hm, σ', h3.sub hsub, hI⟩
    | exit i => exact hq
    | ret => exact hq
    | _ => exact hq.elim
  | _ => intro _ K ρ a w hρ h; exact h.elim

theorem envOf_look : ∀ (vs : List Value) (i t : Nat) (v : Value), look (envOf vs i) t = some v → i ≤ t ∧ vs[t - i]? = some v := by
  intro vs
  induction vs with
  | nil => intro i t v h; cases h
  | cons u vs ih =>
    intro i t v h
    simp only [envOf_cons', look_eq] at h
    cases hb : Nat.beq i t with
    | true => rw [hb] at h; have := Nat.eq_of_beq_eq_true hb; subst this; simp at h; subst h; simp
    | false =>
      rw [hb] at h
      obtain ⟨h1, h2⟩ := ih (i + 1) t v h
      have : t - i = (t - (i + 1)) + 1 := by omega
      exact ⟨by omega, by rw [this]; simpa using h2⟩

def resOne (tmps : Array Value) : ResultVar → Sem Value
  | .tmp t => pure (tmps.getD t undef)
  | .cell x t => do loadVar t (← asAddr (tmps.getD x undef))
theorem res_sound (hT : T.Ok P) {ρ : Env} {a : Act} (hρ : ρ.Ok n a) (w : World) : ∀ (rs : List ResultVar) (K : List Value → Prop), resVC T ρ w rs K →
    ∃ vs, K vs ∧ (rs.mapM (resOne a.tmps)).run P w = .ok vs w := by
  intro rs
  induction rs with
  | nil => intro K h; exact ⟨[], h, rfl⟩
  | cons r rs ih =>
    intro K h
    cases r with
    | tmp t =>
      obtain ⟨v, hv, hk⟩ := W_some h
      obtain ⟨vs, h1, h2⟩ := ih _ hk
      have := hρ.get t v hv
      refine ⟨v :: vs, h1, ?_⟩
      rw [List.mapM_cons, Sem.run_bind]
      simp [resOne, this, h2]
    | cell x t =>
      rw [resVC_cons'] at h
      simp only [resV1] at h
      split at h
      · rename_i q ad h1 h2
        have hx := hρ.get x _ h2
        have hagg := look_isAgg hT h1
        cases hq : q.d.agg with
        | true =>
          rw [hq] at h hagg
          obtain ⟨vs, hk, hr⟩ := LdN_run (P := P) q.size 0 [] _ h
          obtain ⟨us, h3, h4⟩ := ih _ hk
          refine ⟨.agg vs.toArray :: us, h3, ?_⟩
          rw [List.mapM_cons, Sem.run_bind]
          simp only [List.nil_append] at hr
          simp [resOne, hx, asAddr, loadVar, hagg, look_size hT h1, loadCells, hr, h4]
        | false =>
          rw [hq] at h hagg
          obtain ⟨v, hv, hk⟩ := LdC_elim h
          obtain ⟨us, h3, h4⟩ := ih _ hk
          refine ⟨v :: us, h3, ?_⟩
          rw [List.mapM_cons, Sem.run_bind]
          simp [resOne, hx, asAddr, loadVar, hagg, hv, h4]
      · exact h.elim

theorem call_sound (hT : T.Ok P) {f : FuncId} {fn : Func} {c : Code} {args : List Value} {w : World} {K : Value → World → Prop}
    (hf : P.funcs[f]? = some fn) (hb : fn.body = some c) (hc : codeOk fn.ntmps c = true) (hl : Nat.ble args.length fn.ntmps = true)
    (h : codeVC P T c (envOf args 0) w fun e ρ' w' => match e with
      | .norm => resVC T ρ' w' fn.results.toList fun vs => K (one vs) w'
      | .ret => resVC T ρ' w' fn.results.toList fun vs => K (one vs) w'
      | .exit _ => False) : CallC P f args w K := by
  refine CallC_mk (calls_of_wp hf hb ?_)
  have hl := Nat.le_of_ble_eq_true hl
  have hok : Env.Ok fn.ntmps (envOf args 0) { tmps := args.toArray ++ Array.replicate (fn.ntmps - args.toArray.size) undef, defers := [] } := by
    refine ⟨by simp; omega, rfl, fun t v ht => ?_⟩
    have h1 := (envOf_look args 0 t v ht).2
    simp only [Nat.sub_zero] at h1
    have hlt : t < args.length := by
      rcases Nat.lt_or_ge t args.length with h' | h'
      · exact h'
      · rw [List.getElem?_eq_none h'] at h1; cases h1
    rw [Array.getElem?_append_left (by simpa using hlt)]
    simpa using h1
  refine Code.wp_mono ?_ (code_sound hT c hc _ _ _ w hok h)
  have fin : ∀ (ρ : Env) (a : Act) (w : World), Env.Ok fn.ntmps ρ a → (resVC T ρ w fn.results.toList fun vs => K (one vs) w) →
      a.defers = [] ∧ ∃ v, (results fn a.tmps).run P w = .ok v w ∧ ∃ v', Ending.returned v = .returned v' ∧ K v' w := by
    intro ρ a w hρ hr
    obtain ⟨vs, hk, hrun⟩ := res_sound hT hρ w _ _ hr
    refine ⟨hρ.defers, one vs, ?_, one vs, rfl, hk⟩
    show (do let vs ← fn.results.mapM (resOne a.tmps); pure (if h : vs.size = 1 then vs[0] else .tuple vs) : Sem Value).run P w = _
    rw [Sem.run_bind, Array.mapM_eq_mapM_toList, Sem.run_map, hrun]
    simp only [Result.andThen_ok, Sem.run_pure]
    congr 1
    cases vs with
    | nil => rfl
    | cons v vs => cases vs <;> rfl
  intro e a w hq
  cases e with
  | normal => obtain ⟨ρ, h1, h2⟩ := hq; exact fin ρ a w h1 h2
  | ret => obtain ⟨ρ, h1, h2⟩ := hq; exact fin ρ a w h1 h2
  | exit i => obtain ⟨ρ, h1, h2⟩ := hq; exact h2.elim
  | _ => exact hq.elim
end
end Go.Vc
/- The rules for statements whose order of evaluation is open: a plan says which operation may be taken first. -/
namespace Go.Vc

/-- `i` comes after `k`: an edge that binds. -/
def before1 (ops : Array Oper) (i k : Nat) : Bool := match ops[i]? with | some o => o.after.any fun e => Region.binds .any e && e.on == k | none => false
def before2 (ops : Array Oper) (i k : Nat) : Bool := before1 ops i k || (List.range ops.size).any fun m => before1 ops i m && before1 ops m k
def isLast (ops : Array Oper) (i : Nat) : Bool :=
  (List.range ops.size).all fun k => k == i || before2 ops i k
/-- What is listed has all it waits for listed. -/
def Closed (ops : Array Oper) (listed : Array Bool) : Prop :=
  ∀ k o, ops[k]? = some o → listed.getD k false = true → ∀ e ∈ o.after, Region.binds .any e = true → listed.getD e.on false = true
theorem Closed.init {ops : Array Oper} {n : Nat} : Closed ops (Array.replicate n false) := by
  intro k o _ h
  rcases Nat.lt_or_ge k n with hk | hk <;> simp [hk, Array.getD] at h
  all_goals omega
theorem Closed.set {ops : Array Oper} {listed : Array Bool} {i : Nat} (hc : Closed ops listed) (hi : i ∈ Region.ready .any ops listed) : Closed ops (listed.setIfInBounds i true) := by
  intro k o ho h e he hb
  obtain ⟨_, oi, hoi, hall⟩ := mem_ready.1 hi
  by_cases hik : i = k
  · subst hik
    rw [hoi] at ho
    injection ho with ho
    subst ho
    exact getD_set_true (hall e he hb)
  · rw [getD_set_ne false hik] at h
    exact getD_set_true (hc k o ho h e he hb)
theorem before1_listed {ops : Array Oper} {listed : Array Bool} (hc : Closed ops listed) {i k : Nat} (h : before1 ops i k = true) (hi : listed.getD i false = true) : listed.getD k false = true := by
  unfold before1 at h
  split at h
  · rename_i o ho
    obtain ⟨e, he, hb⟩ := Array.any_eq_true'.1 h
    simp only [Bool.and_eq_true, beq_iff_eq] at hb
    rw [← hb.2]; exact hc i o ho hi e he hb.1
  · cases h
theorem before1_ready {ops : Array Oper} {listed : Array Bool} {i k : Nat} (h : before1 ops i k = true) (hi : i ∈ Region.ready .any ops listed) : listed.getD k false = true := by
  obtain ⟨_, oi, hoi, hall⟩ := mem_ready.1 hi
  unfold before1 at h
  rw [hoi] at h
  obtain ⟨e, he, hb⟩ := Array.any_eq_true'.1 h
  simp only [Bool.and_eq_true, beq_iff_eq] at hb
  rw [← hb.2]; exact hall e he hb.1
theorem before2_ready {ops : Array Oper} {listed : Array Bool} (hc : Closed ops listed) {i k : Nat} (h : before2 ops i k = true) (hi : i ∈ Region.ready .any ops listed) : listed.getD k false = true := by
  unfold before2 at h
  rcases Bool.or_eq_true _ _ ▸ h with h | h
  · exact before1_ready h hi
  · obtain ⟨m, _, hm⟩ := List.any_eq_true.1 h
    simp only [Bool.and_eq_true] at hm
    exact before1_listed hc hm.2 (before1_ready hm.1 hi)
theorem unlisted {listed : Array Bool} {i : Nat} (h : listed.getD i true = false) : ¬ listed.getD i false = true := by
  intro h'
  rcases Nat.lt_or_ge i listed.size with hs | hs
  · simp [hs] at h h'; rw [h] at h'; cases h'
  · simp [Array.getElem?_eq_none hs] at h

section
variable {P : Program} {ops : Array Oper} {Q : Exit → Act → World → Prop} {S : World → Prop}
def wpAnyS (P : Program) (ops : Array Oper) (Q : Exit → Act → World → Prop) (S : World → Prop) : Nat → Array Bool → Act → World → Prop
  | 0, listed, a, w => Region.ready .any ops listed = [] ∧ Q .normal a w
  | fuel + 1, listed, a, w =>
    (Region.ready .any ops listed = [] → Q .normal a w) ∧
    ∀ i ∈ Region.ready .any ops listed, wpOp P ops Q i (fun a' w' => (isLast ops i = false → S w') ∧ wpAnyS P ops Q S fuel (listed.setIfInBounds i true) a' w') a w
theorem wpAny_of_S : ∀ (fuel : Nat) (listed : Array Bool) (a : Act) (w : World), wpAnyS P ops Q S fuel listed a w → wpAny P .any ops Q fuel listed a w := by
  intro fuel
  induction fuel with
  | zero => intro listed a w h; exact h
  | succ fuel ih => intro listed a w h; exact ⟨h.1, fun i hi => wpOp_mono (fun a w h => ih _ _ _ h.2) (h.2 i hi)⟩

theorem not_last {listed : Array Bool} {i j : Nat} (hc : Closed ops listed) (hj : j ∈ Region.ready .any ops listed) (hi : i ∈ Region.ready .any ops listed) (hne : j ≠ i) : isLast ops j = false := by
  obtain ⟨hiun, oi, hoi, _⟩ := mem_ready.1 hi
  cases hl : isLast ops j with
  | false => rfl
  | true =>
    exfalso
    have h1 := List.all_eq_true.1 hl i (List.mem_range.2 (Array.getElem?_eq_some_iff.1 hoi).1)
    simp only [Bool.or_eq_true, beq_iff_eq] at h1
    rcases h1 with h1 | h1
    · exact hne h1.symm
    · exact unlisted hiun (before2_ready hc h1 hj)

theorem last_nil {listed : Array Bool} {i : Nat} (hc : Closed ops listed) (hl : isLast ops i = true) (hi : i ∈ Region.ready .any ops listed) : Region.ready .any ops (listed.setIfInBounds i true) = [] := by
  cases hr : Region.ready .any ops (listed.setIfInBounds i true) with
  | nil => rfl
  | cons k ks =>
    exfalso
    have hk : k ∈ Region.ready .any ops (listed.setIfInBounds i true) := by rw [hr]; exact List.mem_cons_self
    obtain ⟨hkun, ok, hok, _⟩ := mem_ready.1 hk
    obtain ⟨hiun, oi, hoi, hall⟩ := mem_ready.1 hi
    have his : i < listed.size := by
      rcases Nat.lt_or_ge i listed.size with h' | h'
      · exact h'
      · simp [Array.getElem?_eq_none h'] at hiun
    have hne : k ≠ i := by
      intro e
      subst e
      simp [his] at hkun
    rw [getD_set_ne true (Ne.symm hne)] at hkun
    have h1 := List.all_eq_true.1 hl k (List.mem_range.2 (Array.getElem?_eq_some_iff.1 hok).1)
    simp only [Bool.or_eq_true, beq_iff_eq] at h1
    rcases h1 with h1 | h1
    · exact hne h1
    · exact unlisted hkun (before2_ready hc h1 hi)

theorem wpAnyS_first {i : Nat} {oi : Oper} {v : Value} (hi : ops[i]? = some oi) (hsel : ∀ (j : Nat) (o : Oper) cs b, ops[j]? = some o → o.op ≠ .select cs b)
    (hQ : ∀ c a w, Q (.panic c) (a.put oi.dst v) w → Q (.panic c) a w) :
    ∀ (fuel : Nat) (listed : Array Bool) (a : Act) (w : World), Closed ops listed →
      (∀ j oj, ops[j]? = some oj → j ≠ i → listed.getD j true = false → (∀ e ∈ oj.after, Region.binds .any e = true → e.on ≠ i) → oi.apart ops oj = true) →
      i ∈ Region.ready .any ops listed → YieldsIf P ops S oi v a → S w →
      wpAnyS P ops Q S fuel (listed.setIfInBounds i true) (a.put oi.dst v) w → wpAnyS P ops Q S (fuel + 1) listed a w := by
  intro fuel
  induction fuel with
  | zero =>
    intro listed a w _ _ hr hy hS H
    refine ⟨fun h => (by rw [h] at hr; cases hr), fun j hj => ?_⟩
    by_cases hji : j = i
    · subst hji; exact hy.wpOp hi hS ⟨fun _ => hS, H⟩
    · have := ready_mono hj hji
      rw [H.1] at this
      cases this
  | succ fuel ih =>
    intro listed a w hc hfree hr hy hS H
    refine ⟨fun h => (by rw [h] at hr; cases hr), fun j hj => ?_⟩
    by_cases hji : j = i
    · subst hji; exact hy.wpOp hi hS ⟨fun _ => hS, H⟩
    · have h1 := H.2 j (ready_mono hj hji)
      obtain ⟨hjun, oj, hoj, hall⟩ := mem_ready.1 hj
      have hl := not_last hc hj hr hji
      have hnot : ∀ e ∈ oj.after, Region.binds .any e = true → e.on ≠ i := fun e he hb heq => by
        have h1 := hall e he hb
        have h0 := (mem_ready.1 hr).1
        rw [heq] at h1
        rcases Nat.lt_or_ge i listed.size with h' | h'
        · simp [h'] at h0 h1; rw [h0] at h1; cases h1
        · simp [Array.getElem?_eq_none h'] at h1
      have h2 := wpOp_putIf hoj (hfree j oj hoj hji hjun hnot) (fun cs b => hsel i oi cs b hi) (fun cs b => hsel j oj cs b hoj) hQ hy h1
      have hfree' : ∀ k ok, ops[k]? = some ok → k ≠ i → (listed.setIfInBounds j true).getD k true = false →
          (∀ e ∈ ok.after, Region.binds .any e = true → e.on ≠ i) → oi.apart ops ok = true := fun k ok hk hki hun hno => by
        refine hfree k ok hk hki ?_ hno
        by_cases hjk : j = k
        · subst hjk; exact hjun
        · rw [getD_set_ne true hjk] at hun; exact hun
      refine wpOp_mono (fun a' w' h3 => ?_) h2
      obtain ⟨hy', hS', h3⟩ := h3
      refine ⟨fun _ => hS' hl, ih (listed.setIfInBounds j true) a' w' (hc.set hj) hfree' (ready_mono hr (Ne.symm hji)) hy' (hS' hl) ?_⟩
      rw [Array.setIfInBounds_comm _ _ hji]
      exact h3
end

inductive Plan where
  | done
  | take (i : Nat) (p : Plan)
  | alt (i : Nat) (p q : Plan)
  | stop
  | over
/-- Behind the last operation nothing need hold. -/
def Plan.fin (ops : Array Oper) (i : Nat) : Plan → Bool
  | .done => isLast ops i
  | _ => true
/-- A plan fits a region. -/
def Plan.ok (ops : Array Oper) : Plan → Array Bool → Option (List Nat) → Bool
  | .done, listed, none => (Region.ready .any ops listed).isEmpty
  | .over, listed, none => (Region.ready .any ops listed).isEmpty
  | .take i p, listed, none => (Region.ready .any ops listed).contains i && Region.free .any ops listed i && p.ok ops (listed.setIfInBounds i true) none
  | .alt i p q, listed, none => (match Region.ready .any ops listed with
    | r :: rs => r == i && p.fin ops i && p.ok ops (listed.setIfInBounds i true) none && q.ok ops listed (some rs)
    | [] => false)
  | .alt i p q, listed, some (r :: rs) => r == i && p.fin ops i && p.ok ops (listed.setIfInBounds i true) none && q.ok ops listed (some rs)
  | .stop, _, some [] => true
  | _, _, _ => false
def lexP (n i : Nat) : Plan := Nat.rec (motive := fun _ => Nat → Plan) (fun _ => .done) (fun _ ih i => .take i (ih (i + 1))) n i
/-- All in the order of the text, the last one whatever it is. -/
def lexS (n : Nat) : Plan := Nat.rec (motive := fun _ => Nat → Plan) (fun i => .alt i .done .stop) (fun _ ih i => .take i (ih (i + 1))) (n - 1) 0
/-- In the order told; from 1000 on a call or a store, which must then be the only one that is ready. -/
noncomputable def planL (l : List Nat) : Plan := List.rec (motive := fun _ => Plan) .done (fun k _ ih => match Nat.ble 1000 k with | true => .alt (k - 1000) ih .stop | false => .take k ih) l
/-- The same, but the condition holds behind the last operation, too. -/
noncomputable def planO (l : List Nat) : Plan := List.rec (motive := fun _ => Plan) .over (fun k _ ih => match Nat.ble 1000 k with | true => .alt (k - 1000) ih .stop | false => .take k ih) l
def fits (ops : Array Oper) (p : Plan) : Bool := Region.noSelect ops && p.ok ops (Array.replicate ops.size false) none

def LdS (S : World → Prop) (ad : Addr) (K : Value → Prop) : Prop := ∃ v, (∀ w, S w → w.cell? ad = some v) ∧ K v
theorem LdS_intro {S : World → Prop} {ad : Addr} {K : Value → Prop} {v : Value} (h : ∀ w, S w → w.cell? ad = some v) (k : K v) : LdS S ad K := ⟨v, h, k⟩
theorem LdS_elim {S : World → Prop} {ad : Addr} {K : Value → Prop} (h : LdS S ad K) : ∃ v, (∀ w, S w → w.cell? ad = some v) ∧ K v := h
attribute [irreducible] LdS
def Old (w0 w : World) : Prop := ∀ k, k < w0.heap.size → w.heap[k]? = w0.heap[k]?
theorem LdS_old {w0 : World} {ad : Addr} {K : Value → Prop} {v : Value} (h : w0.cell? ad = some v) (k : K v) : LdS (Old w0) ad K :=
  LdS_intro (fun w hw => by
    have := hw ad.block (World.block_lt_of_cell? w0 ad h)
    unfold World.cell? at h ⊢
    rw [this]; exact h) k
noncomputable def LdSN (S : World → Prop) (ad : Addr) (i n : Nat) (K : List Value → Prop) : Prop :=
  Nat.rec (motive := fun _ => Nat → (List Value → Prop) → Prop) (fun _ K => K []) (fun _ ih i K => LdS S (ad.add i) fun v => ih (i + 1) fun vs => K (v :: vs)) n i K
noncomputable def takeVC (T : Tab) (S : World → Prop) (ρ : Env) (op : Op) (K : Value → Prop) : Prop :=
  match isPure T op with
  | true => pureVC T ρ op K
  | false => (match op with
    | .load t x => (match look T.recs t, ev ρ x with
      | some q, some (.pointer (some ad)) => (match q.d.agg with
        | true => LdSN S ad 0 q.size fun vs => K (.agg vs.toArray)
        | false => LdS S ad K)
      | _, _ => False)
    | _ => False)
def LastC (p : Plan) (c x : Prop) : Prop := match p with | .done => x | _ => Sd c x
noncomputable def stepVC (ops : List Oper) (i : Nat) (ρ : Env) (run : Oper → Env → Prop) (skip : Oper → Env → Prop) : Prop :=
  match ops[i]? with
  | none => False
  | some o => (match o.guard with
    | none => run o ρ
    | some (j, want) => (match dstOf ops j with
      | none => False
      | some d => (match look ρ d with
        | some (.bool b) => Br b (gd want true (run o ((d, .bool true) :: ρ)) (skip o ((d, .bool true) :: ρ))) (gd want false (run o ((d, .bool false) :: ρ)) (skip o ((d, .bool false) :: ρ)))
        | some (.tuple _) => skip o ρ
        | _ => False)))
noncomputable def planVC (P : Program) (T : Tab) (ops : Array Oper) (S : World → Prop) (p : Plan) : Env → World → (Env → World → Prop) → Prop :=
  Plan.rec (motive := fun _ => Env → World → (Env → World → Prop) → Prop)
    (fun ρ w K => K ρ w)
    (fun i _ ih ρ w K => stepVC ops.toList i ρ (fun o σ => takeVC T S σ o.op fun v => ih (σ.put o.dst v) w K) (fun o σ => ih (σ.put o.dst undef) w K))
    (fun i p _ ihp ihq ρ w K => stepVC ops.toList i ρ (fun o σ => opVC P T σ o.op o.type (fun v w' => LastC p (S w') (ihp (σ.put o.dst v) w' K)) w) (fun o σ => ihp (σ.put o.dst undef) w K) ∧ ihq ρ w K)
    (fun _ _ _ => True)
    (fun ρ w K => K ρ w) p
theorem planVC_take {P : Program} {T : Tab} {ops : Array Oper} {S : World → Prop} {i : Nat} {p : Plan} {ρ : Env} {w : World} {K : Env → World → Prop} : planVC P T ops S (.take i p) ρ w K =
  stepVC ops.toList i ρ (fun o σ => takeVC T S σ o.op fun v => planVC P T ops S p (σ.put o.dst v) w K) (fun o σ => planVC P T ops S p (σ.put o.dst undef) w K) := rfl
theorem planVC_alt {P : Program} {T : Tab} {ops : Array Oper} {S : World → Prop} {i : Nat} {p q : Plan} {ρ : Env} {w : World} {K : Env → World → Prop} : planVC P T ops S (.alt i p q) ρ w K =
  (stepVC ops.toList i ρ (fun o σ => opVC P T σ o.op o.type (fun v w' => LastC p (S w') (planVC P T ops S p (σ.put o.dst v) w' K)) w) (fun o σ => planVC P T ops S p (σ.put o.dst undef) w K) ∧ planVC P T ops S q ρ w K) := rfl

section
variable {P : Program} {T : Tab} {n : Nat} {ops : Array Oper} {S : World → Prop}

theorem LdSN_run {ad : Addr} : ∀ (m i : Nat) (acc : List Value) (K : List Value → Prop), LdSN S ad i m K →
    ∃ vs, K vs ∧ ∀ w, S w → (loadCellsFrom ad i m acc.toArray).run P w = .ok (acc ++ vs).toArray w := by
  intro m
  induction m with
  | zero => intro i acc K h; exact ⟨[], h, fun w _ => by simp [loadCellsFrom]⟩
  | succ m ih =>
    intro i acc K h
    obtain ⟨v, hv, hk⟩ := LdS_elim h
    obtain ⟨vs, hvs, hr⟩ := ih (i + 1) (acc ++ [v]) _ hk
    refine ⟨v :: vs, hvs, fun w hw => ?_⟩
    simp only [loadCellsFrom, Sem.run_bind, run_load, hv w hw, Result.andThen_ok]
    have : acc.toArray.push v = (acc ++ [v]).toArray := by simp
    rw [this, hr w hw]; simp

theorem take_sound (hT : T.Ok P) {ρ : Env} {a : Act} (hρ : ρ.Ok n a) {o : Oper} {K : Value → Prop} (h : takeVC T S ρ o.op K) :
    ∃ v, K v ∧ ∀ w, S w → (execOp a.eval o).run P w = .ok (.value v) w := by
  unfold takeVC at h
  cases hp : isPure T o.op with
  | true =>
    rw [hp] at h
    obtain ⟨v, hk, hr⟩ := pure_sound hT hρ hp h
    exact ⟨v, hk, fun w _ => hr w⟩
  | false =>
    rw [hp] at h
    obtain ⟨dst, op, type, pos, after, guard⟩ := o
    simp only at h
    split at h
    · rename_i t x
      split at h
      · rename_i q ad h1 h2
        have hagg := look_isAgg hT h1
        cases hq : q.d.agg with
        | true =>
          rw [hq] at h hagg
          obtain ⟨vs, hk, hr⟩ := LdSN_run (P := P) q.size 0 [] _ h
          refine ⟨_, hk, fun w hw => ?_⟩
          have hr := hr w hw
          simp only [List.nil_append] at hr
          simp [execOp, hρ.ev h2, Instr.loadAt, Instr.sureAddr, loadVar, hagg, look_size hT h1, loadCells, hr]
        | false =>
          rw [hq] at h hagg
          obtain ⟨v, hv, hk⟩ := LdS_elim h
          refine ⟨_, hk, fun w hw => ?_⟩
          simp [execOp, hρ.ev h2, Instr.loadAt, Instr.sureAddr, loadVar, hagg, hv w hw]
      · exact h.elim
    · exact h.elim

/-- One operation, its guard decided. -/
theorem step_cases {i : Nat} {ρ : Env} {a : Act} (hρ : ρ.Ok n a) {run skip : Oper → Env → Prop} (h : stepVC ops.toList i ρ run skip) :
    ∃ o, ops[i]? = some o ∧ ∃ σ, Env.Ok n σ a ∧ ((Region.wanted o (yielded ops a.tmps) = true ∧ run o σ) ∨ (Region.wanted o (yielded ops a.tmps) = false ∧ skip o σ)) := by
  unfold stepVC at h
  split at h
  · exact h.elim
  · rename_i o ho
    have ho' : ops[i]? = some o := by simpa using ho
    refine ⟨o, ho', ?_⟩
    split at h
    · rename_i hg
      exact ⟨ρ, hρ, .inl ⟨by simp [Region.wanted, hg], h⟩⟩
    · rename_i j want hg
      split at h
      · exact h.elim
      · rename_i d hdo
        split at h
        · rename_i b hl
          have hy := yielded_eq hρ hdo hl
          have hσ : ∀ c, b = c → Env.Ok n ((d, .bool c) :: ρ) a := fun c e => hρ.same (by rw [hl, e])
          cases b <;> cases want
          · exact ⟨_, hσ false rfl, .inl ⟨by simp [Region.wanted, hg, hy], h⟩⟩
          · exact ⟨_, hσ false rfl, .inr ⟨by simp [Region.wanted, hg, hy], h⟩⟩
          · exact ⟨_, hσ true rfl, .inr ⟨by simp [Region.wanted, hg, hy], h⟩⟩
          · exact ⟨_, hσ true rfl, .inl ⟨by simp [Region.wanted, hg, hy], h⟩⟩
        · rename_i hl
          exact ⟨ρ, hρ, .inr ⟨by simp [Region.wanted, hg, yielded_no hρ hdo hl], h⟩⟩
        · exact h.elim

/-- How many operations a plan takes at most. -/
def Plan.depth : Plan → Nat
  | .done => 0
  | .take _ p => p.depth + 1
  | .alt _ p q => max (p.depth + 1) q.depth
  | .stop => 0
  | .over => 0

theorem plan_sound (hT : T.Ok P) {Q : Exit → Act → World → Prop} {K : Env → World → Prop} (hd : ∀ o ∈ ops.toList, ∀ d, o.dst = some d → d < n)
    (hsel : ∀ (j : Nat) (o : Oper) cs b, ops[j]? = some o → o.op ≠ .select cs b)
    (hQ : ∀ ρ' a' w', Env.Ok n ρ' a' → K ρ' w' → Q .normal a' w') (hP : ∀ c a w, ¬ Q (.panic c) a w) :
    ∀ (p : Plan) (fuel : Nat) (listed : Array Bool) (rs : Option (List Nat)) (ρ : Env) (a : Act) (w : World), Closed ops listed → p.ok ops listed rs = true → p.depth ≤ fuel → ρ.Ok n a → S w → planVC P T ops S p ρ w K → (∀ l, rs = some l → ∀ i ∈ l, i ∈ Region.ready .any ops listed) →
      (rs = none → wpAnyS P ops Q S fuel listed a w) ∧
      (∀ l, rs = some l → 0 < fuel → ∀ i ∈ l, wpOp P ops Q i (fun a' w' => (isLast ops i = false → S w') ∧ wpAnyS P ops Q S (fuel - 1) (listed.setIfInBounds i true) a' w') a w) := by
  have dlt : ∀ (i : Nat) (o : Oper), ops[i]? = some o → ∀ d, o.dst = some d → d < n := fun i o ho d hdd => hd o (Array.mem_toList_iff.2 (Array.mem_of_getElem? ho)) d hdd
  intro p
  induction p with
  | done =>
    intro fuel listed rs ρ a w hc hok hf hρ hS h hrs
    cases rs with
    | some l => cases hok
    | none =>
      refine ⟨fun _ => ?_, fun l e => by cases e⟩
      have hr : Region.ready .any ops listed = [] := by simpa [Plan.ok] using hok
      cases fuel with
      | zero => exact ⟨hr, hQ _ _ _ hρ h⟩
      | succ f => exact ⟨fun _ => hQ _ _ _ hρ h, by rw [hr]; simp⟩
  | over =>
    intro fuel listed rs ρ a w hc hok hf hρ hS h hrs
    cases rs with
    | some l => cases hok
    | none =>
      refine ⟨fun _ => ?_, fun l e => by cases e⟩
      have hr : Region.ready .any ops listed = [] := by simpa [Plan.ok] using hok
      cases fuel with
      | zero => exact ⟨hr, hQ _ _ _ hρ h⟩
      | succ f => exact ⟨fun _ => hQ _ _ _ hρ h, by rw [hr]; simp⟩
  | stop =>
    intro fuel listed rs ρ a w hc hok hf hρ hS h hrs
    cases rs with
    | none => cases hok
    | some l =>
      cases l with
      | nil => exact ⟨fun e => (by cases e), fun l e _ i hi => by injection e with e; subst e; cases hi⟩
      | cons r l => cases hok
  | take i p ih =>
    intro fuel listed rs ρ a w hc hok hf hρ hS h hrs
    cases rs with
    | some l => cases l <;> cases hok
    | none =>
      refine ⟨fun _ => ?_, fun l e => by cases e⟩
      simp only [Plan.ok, Bool.and_eq_true] at hok
      obtain ⟨⟨hr, hfr⟩, hokp⟩ := hok
      simp only [Plan.depth] at hf
      obtain ⟨f, rfl⟩ : ∃ f, fuel = f + 1 := ⟨fuel - 1, by omega⟩
      rw [planVC_take] at h
      obtain ⟨o, ho, σ, hσ, hc⟩ := step_cases hρ h
      rcases hc with ⟨hw, hrun⟩ | ⟨hw, hskip⟩
      · obtain ⟨v, hk, hrv⟩ := take_sound hT hσ hrun
        have := (ih f (listed.setIfInBounds i true) none _ _ w (hc.set (by simpa using hr)) hokp (by omega) (hσ.put (dlt i o ho) v) hS hk (fun _ e => by cases e)).1 rfl
        exact wpAnyS_first ho hsel (fun c a w h => (hP _ _ _ h).elim) f listed a w hc (Region.free_spec ho hfr) (by simpa using hr) (.inl ⟨hw, hrv⟩) hS this
      · have := (ih f (listed.setIfInBounds i true) none _ _ w (hc.set (by simpa using hr)) hokp (by omega) (hσ.put (dlt i o ho) undef) hS hskip (fun _ e => by cases e)).1 rfl
        exact wpAnyS_first ho hsel (fun c a w h => (hP _ _ _ h).elim) f listed a w hc (Region.free_spec ho hfr) (by simpa using hr) (.inr ⟨hw, rfl⟩) hS this
  | alt i p q ihp ihq =>
    intro fuel listed rs ρ a w hc hok hf hρ hS h hrs
    rw [planVC_alt] at h
    obtain ⟨h1, h2⟩ := h
    simp only [Plan.depth] at hf
    have hfp : p.depth + 1 ≤ fuel := by omega
    have hfq : q.depth ≤ fuel := by omega
    have head : i ∈ Region.ready .any ops listed → p.fin ops i = true → p.ok ops (listed.setIfInBounds i true) none = true → wpOp P ops Q i (fun a' w' => (isLast ops i = false → S w') ∧ wpAnyS P ops Q S (fuel - 1) (listed.setIfInBounds i true) a' w') a w := by
      intro hir hfin hokp
      obtain ⟨o, ho, σ, hσ, hc⟩ := step_cases hρ h1
      unfold wpOp
      simp only [ho]
      rcases hc with ⟨hw, hrun⟩ | ⟨hw, hskip⟩
      · rw [if_pos hw]
        refine .inl (op_sound hT hσ (fun v w' hk => ?_) hrun)
        by_cases hd : p = .done
        · subst hd
          have hl : isLast ops i = true := hfin
          have hnil := last_nil hc hl hir
          refine ⟨fun e => (by rw [hl] at e; cases e), ?_⟩
          have hq := hQ _ _ _ (hσ.put (dlt i o ho) v) hk
          cases fuel - 1 with
          | zero => exact ⟨hnil, hq⟩
          | succ f => exact ⟨fun _ => hq, by rw [hnil]; simp⟩
        · have hk' : S w' ∧ planVC P T ops S p (σ.put o.dst v) w' K := by
            unfold LastC at hk
            split at hk
            · exact absurd rfl hd
            · unfold Sd at hk; exact hk
          exact ⟨fun _ => hk'.1, (ihp (fuel - 1) (listed.setIfInBounds i true) none _ _ w' (hc.set hir) hokp (by omega) (hσ.put (dlt i o ho) v) hk'.1 hk'.2 (fun _ e => by cases e)).1 rfl⟩
      · rw [hw, if_neg (by simp)]
        exact ⟨fun _ => hS, (ihp (fuel - 1) (listed.setIfInBounds i true) none _ _ w (hc.set hir) hokp (by omega) (hσ.put (dlt i o ho) undef) hS hskip (fun _ e => by cases e)).1 rfl⟩
    cases rs with
    | none =>
      refine ⟨fun _ => ?_, fun l e => by cases e⟩
      simp only [Plan.ok] at hok
      cases hr : Region.ready .any ops listed with
      | nil => rw [hr] at hok; cases hok
      | cons r rs =>
        rw [hr] at hok
        simp only [Bool.and_eq_true, beq_iff_eq] at hok
        obtain ⟨⟨⟨rfl, hfin⟩, hokp⟩, hokq⟩ := hok
        obtain ⟨f, rfl⟩ : ∃ f, fuel = f + 1 := ⟨fuel - 1, by omega⟩
        refine ⟨fun e => (by rw [hr] at e; cases e), fun j hj => ?_⟩
        rw [hr] at hj
        rcases List.mem_cons.1 hj with rfl | hj
        · exact head (by rw [hr]; exact List.mem_cons_self) hfin hokp
        · exact (ihq (f + 1) listed (some rs) ρ a w hc hokq hfq hρ hS h2 (fun l e j hj => by injection e with e; subst e; rw [hr]; exact List.mem_cons_of_mem _ hj)).2 rs rfl (by omega) j hj
    | some l =>
      cases l with
      | nil => cases hok
      | cons r rs =>
        simp only [Plan.ok, Bool.and_eq_true, beq_iff_eq] at hok
        obtain ⟨⟨⟨rfl, hfin⟩, hokp⟩, hokq⟩ := hok
        refine ⟨fun e => (by cases e), fun l e hpos j hj => ?_⟩
        injection e with e
        subst e
        rcases List.mem_cons.1 hj with rfl | hj
        · exact head (hrs _ rfl _ List.mem_cons_self) hfin hokp
        · exact (ihq fuel listed (some rs) ρ a w hc hokq hfq hρ hS h2 (fun l e j hj => by injection e with e; subst e; exact hrs _ rfl j (List.mem_cons_of_mem _ hj))).2 rs rfl hpos j hj

/-- The rule: a plan that fits, and what comes of it. -/
theorem AnyC_plan (hT : T.Ok P) (hm : P.follows .mixedOrders = true) {ρ : Env} {w : World} {K : Env → World → Prop} (p : Plan) (S : World → Prop) (hf : fits ops p = true) (hdep : Nat.ble p.depth ops.size = true)
    (hS : S w.drew) (h : planVC P T ops S p ρ w.drew K) : AnyC P ops ρ w K := by
  refine AnyC_mk fun n a Q hρ hd hQ hP id => wp_region_any hm ?_
  simp only [fits, Bool.and_eq_true] at hf
  have hsel := Region.noSelect_spec hf.1
  refine wpAny_of_S (S := S) _ _ _ _ ?_
  exact (plan_sound hT hd hsel hQ (fun c a w hq => by rcases hP _ _ _ hq with e | ⟨i, e⟩ | e <;> cases e) p ops.size _ none ρ a w.drew Closed.init hf.2 (Nat.le_of_ble_eq_true hdep) hρ hS h (fun _ e => by cases e)).1 rfl
/-- All operations in the order of the text, what was there before unchanged. -/
theorem AnyC_lex (hT : T.Ok P) (hm : P.follows .mixedOrders = true) {ρ : Env} {w : World} {K : Env → World → Prop} (hf : fits ops (lexP ops.size 0) = true) (hdep : Nat.ble (lexP ops.size 0).depth ops.size = true)
    (h : planVC P T ops (Old w) (lexP ops.size 0) ρ w.drew K) : AnyC P ops ρ w K :=
  AnyC_plan hT hm (lexP ops.size 0) (Old w) hf hdep (fun _ _ => rfl) h
theorem AnyC_store (hT : T.Ok P) (hm : P.follows .mixedOrders = true) {ρ : Env} {w : World} {K : Env → World → Prop} (hf : fits ops (lexS ops.size) = true) (hdep : Nat.ble (lexS ops.size).depth ops.size = true)
    (h : planVC P T ops (Old w) (lexS ops.size) ρ w.drew K) : AnyC P ops ρ w K :=
  AnyC_plan hT hm (lexS ops.size) (Old w) hf hdep (fun _ _ => rfl) h
theorem AnyC_ord (l : List Nat) (hT : T.Ok P) (hm : P.follows .mixedOrders = true) {ρ : Env} {w : World} {K : Env → World → Prop} (hf : fits ops (planL l) = true) (hdep : Nat.ble (planL l).depth ops.size = true)
    (h : planVC P T ops (Old w) (planL l) ρ w.drew K) : AnyC P ops ρ w K :=
  AnyC_plan hT hm (planL l) (Old w) hf hdep (fun _ _ => rfl) h
end
theorem LdSN_zero' {S : World → Prop} {ad : Addr} {i : Nat} {K : List Value → Prop} (h : K []) : LdSN S ad i 0 K := h
theorem LdSN_cons' {S : World → Prop} {ad : Addr} {i n : Nat} {K : List Value → Prop} (h : LdS S (ad.add i) fun v => LdSN S ad (i + 1) n fun vs => K (v :: vs)) : LdSN S ad i (n + 1) K := h
attribute [irreducible] LdSN
end Go.Vc
/- Memory: blocks, what is left alone, and the rules' side conditions. -/
namespace Go.Vc

/- The table, checked by a run. -/
def leafEq : Value → Value → Bool
  | .bool a, .bool b => a == b
  | .int j a, .int k b => kindEq j k && decide (a = b)
  | .string a, .string b => decide (a.size = 0) && decide (b.size = 0)
  | .pointer none, .pointer none => true
  | .slice none a b, .slice none c d => Nat.beq a c && Nat.beq b d
  | .map none, .map none => true
  | .nilFunc, .nilFunc => true
  | .nilIface, .nilIface => true
  | _, _ => false
theorem bytes_empty {s : ByteArray} (h : s.size = 0) : s = ByteArray.empty := by
  obtain ⟨a⟩ := s
  have : a = #[] := Array.eq_empty_of_size_eq_zero h
  subst this; rfl
theorem leafEq_eq {a b : Value} (h : leafEq a b = true) : a = b := by
  unfold leafEq at h
  split at h
  · rw [eq_of_beq h]
  · simp only [Bool.and_eq_true, decide_eq_true_eq] at h; rw [beq_ctor h.1, h.2]
  · rename_i s t
    simp only [Bool.and_eq_true, decide_eq_true_eq] at h
    rw [bytes_empty h.1, bytes_empty h.2]
  · rfl
  · simp only [Bool.and_eq_true] at h; rw [Nat.eq_of_beq_eq_true h.1, Nat.eq_of_beq_eq_true h.2]
  · rfl
  · rfl
  · rfl
  · cases h
def leavesEq : List Value → List Value → Bool
  | [], [] => true
  | a :: x, b :: y => leafEq a b && leavesEq x y
  | _, _ => false
theorem leavesEq_eq : ∀ {x y : List Value}, leavesEq x y = true → x = y
  | [], [], _ => rfl
  | [], _ :: _, h => by cases h
  | _ :: _, [], h => by cases h
  | a :: x, b :: y, h => by
    simp only [leavesEq, Bool.and_eq_true] at h
    rw [leafEq_eq h.1, leavesEq_eq h.2]
def pairsEq : List (Nat × Nat) → List (Nat × Nat) → Bool
  | [], [] => true
  | (a, b) :: x, (c, d) :: y => Nat.beq a c && (Nat.beq b d && pairsEq x y)
  | _, _ => false
theorem pairsEq_eq : ∀ {x y : List (Nat × Nat)}, pairsEq x y = true → x = y
  | [], [], _ => rfl
  | [], _ :: _, h => by cases h
  | _ :: _, [], h => by cases h
  | (a, b) :: x, (c, d) :: y, h => by
    simp only [pairsEq, Bool.and_eq_true] at h
    rw [Nat.eq_of_beq_eq_true h.1, Nat.eq_of_beq_eq_true h.2.1, pairsEq_eq h.2.2]
def D.beq : D → D → Bool
  | .bool, .bool => true
  | .int j, .int k => kindEq j k
  | .str, .str => true
  | .ptr a, .ptr b => Nat.beq a b
  | .slice a, .slice b => Nat.beq a b
  | .arr a b, .arr c d => Nat.beq a c && Nat.beq b d
  | .map a b, .map c d => Nat.beq a c && Nat.beq b d
  | .struct a, .struct b => pairsEq a b
  | .func, .func => true
  | .iface, .iface => true
  | .other, .other => true
  | _, _ => false
theorem D.beq_eq {a b : D} (h : D.beq a b = true) : a = b := by
  unfold D.beq at h
  split at h <;> first
    | rfl
    | (rw [beq_ctor h]; done)
    | (rw [Nat.eq_of_beq_eq_true h]; done)
    | (rw [pairsEq_eq h]; done)
    | (simp only [Bool.and_eq_true] at h; rw [Nat.eq_of_beq_eq_true h.1, Nat.eq_of_beq_eq_true h.2]; done)
    | (cases h; done)
def recOk (P : Program) (t : Nat) (r : Rec) : Bool :=
  match P.underlying t, P.info? t with
  | some d, some i => (match i.zero with
    | some z => D.beq (D.of d) r.d && (Nat.beq i.size r.size && (Nat.beq i.bytes r.bytes && leavesEq z.cells.toList r.zero))
    | none => false)
  | _, _ => false
theorem recOk_ok {P : Program} {t : Nat} {r : Rec} (h : recOk P t r = true) : r.Ok P t := by
  unfold recOk at h
  split at h
  · rename_i d i h1 h2
    split at h
    · rename_i z h3
      simp only [Bool.and_eq_true] at h
      exact ⟨⟨d, h1, D.beq_eq h.1⟩, i, z, h2, Nat.eq_of_beq_eq_true h.2.1, Nat.eq_of_beq_eq_true h.2.2.1, h3, leavesEq_eq h.2.2.2⟩
    · cases h
  · cases h
def fnOk (P : Program) (f : Nat) : Bool := match P.funcs[f]? with | some fn => !(fn.name == "runtime.NumGoroutine") && !fn.body.isNone | none => false
theorem fnOk_ok {P : Program} {f : Nat} (h : fnOk P f = true) : FnOk P f := by
  unfold fnOk at h
  split at h
  · rename_i fn h1
    simp only [Bool.and_eq_true, Bool.not_eq_true'] at h
    exact ⟨fn, h1, h.1, h.2⟩
  · cases h
theorem tab_of {P : Program} {T : Tab} (h : (T.recs.all (fun x => recOk P x.1 x.2) && T.fns.all (fnOk P)) = true) : T.Ok P := by
  simp only [Bool.and_eq_true, List.all_eq_true] at h
  exact Tab.Ok.mk' (fun x hx => recOk_ok (h.1 x hx)) (fun f hf => fnOk_ok (h.2 f hf))

/-- What a place holds, its number made plain. -/
theorem look_int {ρ : Env} {t : Nat} {k : IntKind} {m n : Int} (h : Vc.look ρ t = some (.int k m)) (e : m = n) : Vc.look ρ t = some (.int k n) := by rw [h, e]

/- Blocks. -/
def Blk (w : World) (b : Nat) (t : TypeId) (cs : List Value) : Prop := w.heap[b]? = some (.cells cs.toArray t (0, 0))
/-- From w to w' nothing that was there has turned but what F lets. -/
structure Fr (F : Nat → Prop) (w w' : World) : Prop where
  os : w'.os = w.os
  tape : w'.tape = w.tape
  output : w'.output = w.output
  size : w.heap.size ≤ w'.heap.size
  blk : ∀ k, k < w.heap.size → ¬ F k → w'.heap[k]? = w.heap[k]?
def No : Nat → Prop := fun _ => False
section
variable {w w' w'' : World} {b k : Nat} {t : TypeId} {cs : List Value} {F G H : Nat → Prop}
theorem Blk.of_eq {cs' : List Value} (h : Blk w b t cs) (e : cs = cs') : Blk w b t cs' := e ▸ h
theorem Blk.lt (h : Blk w b t cs) : b < w.heap.size := by
  unfold Blk at h
  rcases Nat.lt_or_ge b w.heap.size with h' | h'
  · exact h'
  · rw [Array.getElem?_eq_none h'] at h; cases h
theorem Blk.cell (h : Blk w b t cs) {o : Nat} {v : Value} (hc : cs[o]? = some v) : w.cell? ⟨b, o, none⟩ = some v := by
  unfold Blk at h
  simp [World.cell?, h, hc]
theorem Blk.frozen (h : Blk w b t cs) (o : Nat) : w.frozen? ⟨b, o, none⟩ = false := by
  unfold Blk at h
  simp [World.frozen?, h]
theorem Blk.keep (h : Blk w b t cs) (f : Fr F w w') (hn : ¬ F b) : Blk w' b t cs := (f.blk b h.lt hn).trans h
theorem Blk.inj {cs' : List Value} {t' : TypeId} (h : Blk w b t cs) (h' : Blk w b t' cs') : cs = cs' ∧ t = t' := by
  unfold Blk at h h'
  rw [h] at h'
  injection h' with h'
  injection h' with h1 h2
  exact ⟨by simpa using h1, h2⟩
theorem Fr.refl (F : Nat → Prop) (w : World) : Fr F w w := ⟨rfl, rfl, rfl, Nat.le_refl _, fun _ _ _ => rfl⟩
theorem Fr.trans (h : Fr F w w') (g : Fr G w' w'') (hF : ∀ k, k < w.heap.size → F k → H k) (hG : ∀ k, k < w.heap.size → G k → H k) : Fr H w w'' :=
  ⟨g.os.trans h.os, g.tape.trans h.tape, g.output.trans h.output, Nat.le_trans h.size g.size, fun k hk hn =>
    (g.blk k (Nat.lt_of_lt_of_le hk h.size) (fun e => hn (hG k hk e))).trans (h.blk k hk (fun e => hn (hF k hk e)))⟩
theorem Fr.no (h : Fr No w w') (g : Fr No w' w'') : Fr No w w'' := h.trans g (fun _ _ e => e.elim) (fun _ _ e => e.elim)
theorem Fr.noL (h : Fr No w w') (g : Fr G w' w'') : Fr G w w'' := h.trans g (fun _ _ e => e.elim) (fun _ _ e => e)
theorem Fr.noR (h : Fr F w w') (g : Fr No w' w'') : Fr F w w'' := h.trans g (fun _ _ e => e) (fun _ _ e => e.elim)
/-- What was written is new. -/
theorem Fr.new (h : Fr F w w') (g : Fr G w' w'') (hF : ∀ k, k < w.heap.size → F k → H k) (hG : ∀ k, G k → w.heap.size ≤ k) : Fr H w w'' :=
  h.trans g hF (fun k hk e => absurd (hG k e) (by omega))
theorem Fr.weak (h : Fr F w w') (hF : ∀ k, k < w.heap.size → F k → H k) : Fr H w w' := ⟨h.os, h.tape, h.output, h.size, fun k hk hn => h.blk k hk fun e => hn (hF k hk e)⟩
theorem Fr.drew (w : World) : Fr No w w.drew := ⟨rfl, rfl, rfl, Nat.le_refl _, fun _ _ _ => rfl⟩
theorem Fr.drew' (h : Fr F w w') : Fr F w w'.drew := ⟨h.os, h.tape, h.output, h.size, h.blk⟩
theorem Fr.same (h : Fr F w w') (g : Fr F w' w'') : Fr F w w'' := h.trans g (fun _ _ e => e) (fun _ _ e => e)
theorem Fr.drewL (h : Fr F w.drew w') : Fr F w w' := (Fr.drew w).noL h
theorem Fr.old (h : Fr No w w') : Old w w' := fun k hk => h.blk k hk (fun e => e)
theorem Fr.below (h : Fr No w w') : RowKit.Below w.heap.size w w' := ⟨h.os, h.tape, h.output, h.size, fun k hk => h.blk k hk (fun e => e)⟩

theorem LdC_blk {K : Value → Prop} {o : Nat} {v : Value} (h : Blk w b t cs) (hc : cs[o]? = some v) (k : K v) : LdC w ⟨b, o, none⟩ K := LdC_intro (h.cell hc) k
theorem LdS_blk {K : Value → Prop} {o : Nat} {v : Value} (h : Blk w b t cs) (hc : cs[o]? = some v) (k : K v) : LdS (Old w) ⟨b, o, none⟩ K := LdS_old (h.cell hc) k
theorem Blk.set (h : Blk w b t cs) (o : Nat) (v : Value) : Blk (w.setCell ⟨b, o, none⟩ v) b t (cs.set o v) := by
  unfold Blk at h ⊢
  simp [World.setCell, Array.getElem?_modify, h]
theorem Fr.setCell (w : World) (a : Addr) (v : Value) : Fr (· = a.block) w (w.setCell a v) :=
  ⟨rfl, rfl, rfl, by simp, fun k _ hn => RowKit.Below.heap_setCell w a v k hn⟩
theorem StC_blk {K : World → Prop} {o : Nat} {v u : Value} (h : Blk w b t cs) (h1 : v.oneCell' = true) (hc : cs[o]? = some u)
    (k : ∀ w', Blk w' b t (cs.set o v) → Fr (· = b) w w' → w'.heap.size = w.heap.size → K w') : StC w ⟨b, o, none⟩ v K :=
  StC_intro h1 (h.cell hc) (h.frozen o) (k _ (h.set o v) (Fr.setCell w ⟨b, o, none⟩ v) (by simp))
theorem NewC_blk {K : Nat → World → Prop} (k : ∀ b w', b = w.heap.size → Blk w' b t cs → Fr No w w' → w'.heap.size = b + 1 → K b w') : NewC w (.cells cs.toArray t) K :=
  NewC_intro (k _ _ rfl (by unfold Blk; exact heap_new w _) ⟨rfl, rfl, rfl, by simp, fun k hk _ => RowKit.Below.heap_alloc w _ k hk⟩ (by simp))
where
  heap_new (w : World) (o : Obj) : (w.alloc o).heap[w.heap.size]? = some o := by show (w.heap.push o)[w.heap.size]? = some o; simp
theorem add_of {b o n : Nat} : (Addr.mk b o none).add n = ⟨b, o + n, none⟩ := by
  unfold Addr.add; split
  · rename_i h; subst h; rfl
  · rfl
theorem add_add' {b o m n : Nat} : ((Addr.mk b o none).add m).add n = ⟨b, o + m + n, none⟩ := by rw [add_of, add_of]
/-- Structs, their cells at once. -/
theorem LdN_aux {b t} {cs : List Value} (h : Blk w b t cs) {o : Nat} : ∀ (vs : List Value) (i : Nat) (K : List Value → Prop), (cs.drop (o + i)).take vs.length = vs → K vs → LdN w ⟨b, o, none⟩ i vs.length K := by
  intro vs
  induction vs with
  | nil => intro i K _ k; exact LdN_zero' k
  | cons v vs ih =>
    intro i K hc k
    have h0 : cs[o + i]? = some v := by
      have := congrArg (fun l => l[0]?) hc
      simpa using this
    refine LdN_cons' ?_
    rw [add_of]
    refine LdC_blk h h0 (ih (i + 1) _ ?_ k)
    obtain ⟨hlt, hv⟩ := List.getElem?_eq_some_iff.1 h0
    rw [List.drop_eq_getElem_cons hlt, List.length_cons, List.take_succ_cons] at hc
    injection hc
theorem LdN_blk {b t} {cs vs : List Value} {o n : Nat} {K : List Value → Prop} (h : Blk w b t cs) (hc : (cs.drop o).take n = vs) (hn : vs.length = n) (k : K vs) : LdN w ⟨b, o, none⟩ 0 n K := by
  subst hn; exact LdN_aux h vs 0 K hc k
theorem LdN_idx {b t} {cs vs : List Value} {o m n : Nat} {K : List Value → Prop} (h : Blk w b t cs) (hc : (cs.drop (o + m)).take n = vs) (hn : vs.length = n) (k : K vs) : LdN w ((Addr.mk b o none).add m) 0 n K := by
  rw [add_of]; exact LdN_blk h hc hn k
theorem LdSN_aux {b t} {cs : List Value} (h : Blk w b t cs) {o : Nat} : ∀ (vs : List Value) (i : Nat) (K : List Value → Prop), (cs.drop (o + i)).take vs.length = vs → K vs → LdSN (Old w) ⟨b, o, none⟩ i vs.length K := by
  intro vs
  induction vs with
  | nil => intro i K _ k; exact LdSN_zero' k
  | cons v vs ih =>
    intro i K hc k
    have h0 : cs[o + i]? = some v := by
      have := congrArg (fun l => l[0]?) hc
      simpa using this
    refine LdSN_cons' ?_
    rw [add_of]
    refine LdS_blk h h0 (ih (i + 1) _ ?_ k)
    obtain ⟨hlt, hv⟩ := List.getElem?_eq_some_iff.1 h0
    rw [List.drop_eq_getElem_cons hlt, List.length_cons, List.take_succ_cons] at hc
    injection hc
theorem LdSN_blk {b t} {cs vs : List Value} {o n : Nat} {K : List Value → Prop} (h : Blk w b t cs) (hc : (cs.drop o).take n = vs) (hn : vs.length = n) (k : K vs) : LdSN (Old w) ⟨b, o, none⟩ 0 n K := by
  subst hn; exact LdSN_aux h vs 0 K hc k
theorem LdSN_idx {b t} {cs vs : List Value} {o m n : Nat} {K : List Value → Prop} (h : Blk w b t cs) (hc : (cs.drop (o + m)).take n = vs) (hn : vs.length = n) (k : K vs) : LdSN (Old w) ((Addr.mk b o none).add m) 0 n K := by
  rw [add_of]; exact LdSN_blk h hc hn k
/-- A row of cells written over. -/
noncomputable def over (cs : List Value) (o : Nat) (vs : List Value) : List Value := List.rec (motive := fun _ => Nat → List Value → List Value) (fun _ cs => cs) (fun v _ ih o cs => ih (o + 1) (cs.set o v)) vs o cs
theorem StN_aux {b t} {o : Nat} : ∀ (vs : List Value) (i : Nat) (cs : List Value) (w : World) (K : World → Prop), Blk w b t cs → vs.all Value.oneCell' = true → o + i + vs.length ≤ cs.length →
    (∀ w', Blk w' b t (over cs (o + i) vs) → Fr (· = b) w w' → w'.heap.size = w.heap.size → K w') → StN ⟨b, o, none⟩ i vs K w := by
  intro vs
  induction vs with
  | nil => intro i cs w K h _ _ k; exact StN_zero' (k w h (Fr.refl _ _) rfl)
  | cons v vs ih =>
    intro i cs w K h ho hl k
    simp only [List.all_cons, Bool.and_eq_true] at ho
    simp only [List.length_cons] at hl
    refine StN_cons' ?_
    rw [add_of]
    refine StC_blk h ho.1 (u := cs[o + i]'(by omega)) (by simp) (fun w1 h1 f1 s1 => ?_)
    exact ih (i + 1) (cs.set (o + i) v) w1 K h1 ho.2 (by rw [List.length_set]; omega) (fun w2 h2 f2 s2 => k w2 h2 (f1.same f2) (s2.trans s1))
theorem StN_blk {b t} {cs vs : List Value} {o : Nat} {K : World → Prop} (h : Blk w b t cs) (ho : vs.all Value.oneCell' = true) (hl : o + vs.length ≤ cs.length)
    (k : ∀ w', Blk w' b t (over cs o vs) → Fr (· = b) w w' → w'.heap.size = w.heap.size → K w') : StN ⟨b, o, none⟩ 0 vs K w := StN_aux vs 0 cs w K h ho hl k
theorem StN_idx {b t} {cs vs : List Value} {o m : Nat} {K : World → Prop} (h : Blk w b t cs) (ho : vs.all Value.oneCell' = true) (hl : o + m + vs.length ≤ cs.length)
    (k : ∀ w', Blk w' b t (over cs (o + m) vs) → Fr (· = b) w w' → w'.heap.size = w.heap.size → K w') : StN ((Addr.mk b o none).add m) 0 vs K w := by
  rw [add_of]; exact StN_blk h ho hl k
/-- The same rules at an address that was stepped to. -/
theorem LdC_idx {K : Value → Prop} {o n : Nat} {v : Value} (h : Blk w b t cs) (hc : cs[o + n]? = some v) (k : K v) : LdC w ((Addr.mk b o none).add n) K := by
  rw [add_of]; exact LdC_blk h hc k
theorem LdS_idx {K : Value → Prop} {o n : Nat} {v : Value} (h : Blk w b t cs) (hc : cs[o + n]? = some v) (k : K v) : LdS (Old w) ((Addr.mk b o none).add n) K := by
  rw [add_of]; exact LdS_blk h hc k
theorem StC_idx {K : World → Prop} {o n : Nat} {v u : Value} (h : Blk w b t cs) (h1 : v.oneCell' = true) (hc : cs[o + n]? = some u)
    (k : ∀ w', Blk w' b t (cs.set (o + n) v) → Fr (· = b) w w' → w'.heap.size = w.heap.size → K w') : StC w ((Addr.mk b o none).add n) v K := by
  rw [add_of]; exact StC_blk h h1 hc k
end
end Go.Vc
