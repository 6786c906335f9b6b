/- What a Go function's code comes to, as one formula over its operands and its memory: the rules by which it is read off the code. -/
import Derived.Orders
import Derived.Tactics
import Derived.Laws.Entries
import Derived.Laws.Slices
import Derived.Below
namespace Go.Vc

/- The types' table, in short. -/
inductive D where
  | bool | int (k : IntKind) | str | ptr (e : Nat) | slice (e : Nat) | arr (n e : Nat) | map (k e : Nat) | struct (fs : List (Nat × Nat)) | func | iface | other
def D.of : TypeDesc → D
  | .bool => .bool | .int k => .int k | .string => .str | .pointer e => .ptr e | .slice e => .slice e | .array n e => .arr n e | .map k e => .map k e
  | .struct fs => .struct (fs.toList.map fun f => (f.type, f.offset)) | .func _ _ _ => .func | .interface _ => .iface | _ => .other
def D.agg : D → Bool | .struct _ => true | .arr _ _ => true | _ => false
structure Rec where
  d : D
  size : Nat
  bytes : Nat
  zero : List Value
structure Tab where
  recs : List (Nat × Rec)
  fns : List Nat
noncomputable def look {α : Type} (l : List (Nat × α)) (t : Nat) : Option α :=
  List.rec (motive := fun _ => Option α) none (fun x _ ih => Bool.rec ih (some x.2) (Nat.beq x.1 t)) l
theorem look_nil {α : Type} {t : Nat} : look ([] : List (Nat × α)) t = none := rfl
theorem look_eq {α : Type} {u : Nat} {v : α} {r : List (Nat × α)} {t : Nat} : look ((u, v) :: r) t = match Nat.beq u t with | true => some v | false => look r t := by
  show (Bool.rec (look r t) (some v) (Nat.beq u t) : Option α) = _
  cases Nat.beq u t <;> rfl
noncomputable def has (l : List Nat) (t : Nat) : Bool :=
  List.rec (motive := fun _ => Bool) false (fun u _ ih => Bool.rec ih true (Nat.beq u t)) l
theorem has_eq {u : Nat} {r : List Nat} {t : Nat} : has (u :: r) t = match Nat.beq u t with | true => true | false => has r t := by
  show (Bool.rec (has r t) true (Nat.beq u t) : Bool) = _
  cases Nat.beq u t <;> rfl
def Rec.Ok (P : Program) (t : Nat) (r : Rec) : Prop :=
  (∃ d, P.underlying t = some d ∧ D.of d = r.d) ∧ ∃ i z, P.info? t = some i ∧ i.size = r.size ∧ i.bytes = r.bytes ∧ i.zero = some z ∧ z.cells.toList = r.zero
def FnOk (P : Program) (f : Nat) : Prop := ∃ fn, P.funcs[f]? = some fn ∧ (fn.name == "runtime.NumGoroutine") = false ∧ fn.body.isNone = false
structure Tab.Ok (P : Program) (T : Tab) : Prop where
  recs : ∀ t r, look T.recs t = some r → r.Ok P t
  fns : ∀ f, has T.fns f = true → FnOk P f
noncomputable def Tab.d (T : Tab) (t : Nat) : D := match look T.recs t with | some r => r.d | none => .other

theorem look_mem {α : Type} {l : List (Nat × α)} {t : Nat} {v : α} (h : look l t = some v) : (t, v) ∈ l := by
  induction l with
  | nil => cases h
  | cons x l ih =>
    obtain ⟨u, y⟩ := x
    simp only [look_eq] at h
    cases hb : Nat.beq u t with
    | true => rw [hb] at h; have := Nat.eq_of_beq_eq_true hb; subst this; simp at h; subst h; exact List.mem_cons_self
    | false => rw [hb] at h; exact List.mem_cons_of_mem _ (ih h)
theorem has_mem {l : List Nat} {t : Nat} (h : has l t = true) : t ∈ l := by
  induction l with
  | nil => cases h
  | cons u l ih =>
    simp only [has_eq] at h
    cases hb : Nat.beq u t with
    | true => have := Nat.eq_of_beq_eq_true hb; subst this; exact List.mem_cons_self
    | false => rw [hb] at h; exact List.mem_cons_of_mem _ (ih h)
theorem Tab.Ok.mk' {P : Program} {T : Tab} (h1 : ∀ x ∈ T.recs, x.2.Ok P x.1) (h2 : ∀ f ∈ T.fns, FnOk P f) : T.Ok P :=
  ⟨fun t r h => h1 (t, r) (look_mem h), fun f h => h2 f (has_mem h)⟩

/- What is known of a frame's variables. -/
abbrev Env := List (Nat × Value)
def Env.put (ρ : Env) : Option Nat → Value → Env
  | some d, v => (d, v) :: ρ
  | none, _ => ρ
structure Env.Ok (n : Nat) (ρ : Env) (a : Act) : Prop where
  size : a.tmps.size = n
  defers : a.defers = []
  get : ∀ t v, look ρ t = some v → a.tmps[t]? = some v
noncomputable def ev (ρ : Env) : Operand → Option Value
  | .tmp t => look ρ t
  | .const v => some v
  | .global g => some (.pointer (some ⟨g, 0, none⟩))
  | .func f => some (.func (.func f) #[] #[])
noncomputable def evs (ρ : Env) : List Operand → Option (List Value)
  | [] => some []
  | x :: r => match ev ρ x, evs ρ r with | some v, some vs => some (v :: vs) | _, _ => none

theorem Env.Ok.ev {n : Nat} {ρ : Env} {a : Act} (h : ρ.Ok n a) {x : Operand} {v : Value} (hx : ev ρ x = some v) : a.eval x = v := by
  cases x with
  | tmp t => have := h.get t v hx; simp [Act.eval, this]
  | const u => simpa [Vc.ev, Act.eval] using hx
  | global g => simpa [Vc.ev, Act.eval] using hx
  | func f => simpa [Vc.ev, Act.eval] using hx
theorem Env.Ok.evs {n : Nat} {ρ : Env} {a : Act} (h : ρ.Ok n a) {xs : List Operand} {vs : List Value} (hx : evs ρ xs = some vs) : xs.map a.eval = vs := by
  induction xs generalizing vs with
  | nil => simpa [Vc.evs] using hx
  | cons x xs ih =>
    simp only [Vc.evs] at hx
    cases h1 : Vc.ev ρ x with
    | none => simp [h1] at hx
    | some v =>
      cases h2 : Vc.evs ρ xs with
      | none => simp [h1, h2] at hx
      | some ws => simp [h1, h2] at hx; subst hx; simp [h.ev h1, ih h2]
theorem Env.Ok.put {n : Nat} {ρ : Env} {a : Act} (h : ρ.Ok n a) {dst : Option Nat} (hd : ∀ d, dst = some d → d < n) (v : Value) : (ρ.put dst v).Ok n (a.put dst v) := by
  cases dst with
  | none => exact h
  | some d =>
    refine ⟨by simp [Act.put, h.size], h.defers, fun t u ht => ?_⟩
    simp only [Env.put, look_eq] at ht
    cases hb : Nat.beq d t with
    | true =>
      rw [hb] at ht
      have := Nat.eq_of_beq_eq_true hb; subst this
      simp at ht; subst ht
      have hlt : d < a.tmps.size := by rw [h.size]; exact hd d rfl
      simp [Act.put, hlt]
    | false =>
      rw [hb] at ht
      have hne : d ≠ t := fun e => by subst e; simp at hb
      simp only [Act.put, Array.getElem?_setIfInBounds_ne hne]
      exact h.get t u ht
/-- A literal in a known place. -/
theorem Env.Ok.same {n : Nat} {ρ : Env} {a : Act} (h : ρ.Ok n a) {t : Nat} {v : Value} (ht : look ρ t = some v) : Env.Ok n ((t, v) :: ρ) a := by
  refine ⟨h.size, h.defers, fun u x hu => ?_⟩
  simp only [look_eq] at hu
  cases hb : Nat.beq t u with
  | true => rw [hb] at hu; have := Nat.eq_of_beq_eq_true hb; subst this; simp at hu; subst hu; exact h.get _ _ ht
  | false => rw [hb] at hu; exact h.get _ _ hu
def Sub : Env → Env → Prop
  | [], _ => True
  | (t, v) :: r, ρ => look ρ t = some v ∧ Sub r ρ
theorem Sub.look {ρ σ : Env} (h : Sub ρ σ) {t : Nat} {v : Value} (ht : look ρ t = some v) : look σ t = some v := by
  induction ρ with
  | nil => cases ht
  | cons x ρ ih =>
    obtain ⟨u, y⟩ := x
    simp only [look_eq] at ht
    cases hb : Nat.beq u t with
    | true => rw [hb] at ht; have := Nat.eq_of_beq_eq_true hb; subst this; simp at ht; subst ht; exact h.1
    | false => rw [hb] at ht; exact ih h.2 ht
theorem Env.Ok.sub {n : Nat} {ρ σ : Env} {a : Act} (h : σ.Ok n a) (hs : Sub ρ σ) : ρ.Ok n a := ⟨h.size, h.defers, fun t v ht => h.get t v (hs.look ht)⟩

/- The formula's words. -/
def Br (b : Bool) (x y : Prop) : Prop := @Bool.rec (fun _ => Prop) y x b
/- The rules speak of the bare recursor: two words of one name would be held against one another again and again. -/
theorem Br_intro {b : Bool} {x y : Prop} (h1 : b = true → x) (h2 : b = false → y) : @Bool.rec (fun _ => Prop) y x b := by cases b; exact h2 rfl; exact h1 rfl
theorem Br_t {b : Bool} {x y : Prop} (hb : b = true) (h : x) : @Bool.rec (fun _ => Prop) y x b := by subst hb; exact h
theorem Br_f {b : Bool} {x y : Prop} (hb : b = false) (h : y) : @Bool.rec (fun _ => Prop) y x b := by subst hb; exact h
theorem Br_dt {c : Prop} [Decidable c] {x y : Prop} (hb : c) (h : x) : @Bool.rec (fun _ => Prop) y x (decide c) := Br_t (decide_eq_true hb) h
theorem Br_df {c : Prop} [Decidable c] {x y : Prop} (hb : ¬ c) (h : y) : @Bool.rec (fun _ => Prop) y x (decide c) := Br_f (decide_eq_false hb) h
theorem Br_nt {c x y : Prop} [Decidable c] (h : ¬ c) (k : x) : @Bool.rec (fun _ => Prop) y x (!decide c) := Br_t (by rw [decide_eq_false h]; rfl) k
theorem Br_nf {c x y : Prop} [Decidable c] (h : c) (k : y) : @Bool.rec (fun _ => Prop) y x (!decide c) := Br_f (by rw [decide_eq_true h]; rfl) k
theorem Br_ndec {c x y : Prop} [Decidable c] (t : ¬ c → x) (f : c → y) : @Bool.rec (fun _ => Prop) y x (!decide c) := by
  by_cases h : c
  · exact Br_nf h (f h)
  · exact Br_nt h (t h)
theorem Br_dec {c : Prop} [Decidable c] {x y : Prop} (h1 : c → x) (h2 : ¬ c → y) : @Bool.rec (fun _ => Prop) y x (decide c) := Br_intro (fun h => h1 (of_decide_eq_true h)) (fun h => h2 (of_decide_eq_false h))
def Nn (p : Option Addr) (K : Addr → Prop) : Prop := match p with | some ad => K ad | none => False
/-- A side condition, then the rest. -/
def Sd (c : Prop) (K : Prop) : Prop := c ∧ K
theorem Sd_intro {c K : Prop} (h : c) (k : K) : Sd c K := ⟨h, k⟩
attribute [irreducible] Sd
def W (o : Option Value) (K : Value → Prop) : Prop := match o with | some v => K v | none => False
def bits (op : BinOp) (k : IntKind) (x y : Int) : Int :=
  let a := BitVec.ofInt k.bits x
  let b := BitVec.ofInt k.bits y
  k.wrap (match op with | .and => (a &&& b).toNat | .or => (a ||| b).toNat | .xor => (a ^^^ b).toNat | _ => (a &&& ~~~b).toNat)
attribute [irreducible] bits
def shiftV (op : BinOp) (k : IntKind) (x : Int) (n : Nat) : Int :=
  match op with
  | .shl => k.wrap (x * 2 ^ (min n k.bits))
  | _ => x.fdiv (2 ^ (min n k.bits))
attribute [irreducible] shiftV
def intOp (op : BinOp) (k : IntKind) (x y : Int) (K : Value → Prop) : Prop :=
  match op with
  | .add => K (.int k (k.wrap (x + y)))
  | .sub => K (.int k (k.wrap (x - y)))
  | .mul => K (.int k (k.wrap (x * y)))
  | .quo => Sd (y ≠ 0) (K (.int k (k.wrap (x.tdiv y))))
  | .rem => Sd (y ≠ 0) (K (.int k (x.tmod y)))
  | .and => K (.int k (bits .and k x y))
  | .or => K (.int k (bits .or k x y))
  | .xor => K (.int k (bits .xor k x y))
  | .andNot => K (.int k (bits .andNot k x y))
  | .eql => K (.bool (decide (x = y)))
  | .neq => K (.bool (!decide (x = y)))
  | .lss => K (.bool (decide (x < y)))
  | .leq => K (.bool (decide (x ≤ y)))
  | .gtr => K (.bool (decide (x > y)))
  | .geq => K (.bool (decide (x ≥ y)))
  | _ => False
def isShift : BinOp → Bool | .shl | .shr => true | _ => false
def kindEq (a b : IntKind) : Bool := Nat.beq a.ctorIdx b.ctorIdx
def binV (d : D) (op : BinOp) (x y : Value) (K : Value → Prop) : Prop :=
  match isShift op with
  | true => match x, y with
    | .int k a, .int _ b => Sd (0 ≤ b) (K (.int k (shiftV op k a b.toNat)))
    | _, _ => False
  | false => match x, y with
    | .int k a, .int k' b => match kindEq k k' with | true => intOp op k a b K | false => False
    | .bool a, .bool b => (match d, op with | .bool, .eql => K (.bool (a == b)) | .bool, .neq => K (.bool (!(a == b))) | _, _ => False)
    | .pointer a, .pointer none => (match d, op with | .ptr _, .eql => K (.bool a.isNone) | .ptr _, .neq => K (.bool (!a.isNone)) | _, _ => False)
    | .slice a _ _, .slice none _ _ => (match d, op with | .slice _, .eql => K (.bool a.isNone) | .slice _, .neq => K (.bool (!a.isNone)) | _, _ => False)
    | .map a, .map none => (match d, op with | .map _ _, .eql => K (.bool a.isNone) | .map _ _, .neq => K (.bool (!a.isNone)) | _, _ => False)
    | _, _ => False
def cellsL : Value → List Value
  | .agg cs => cs.toList
  | v => [v]
def fillL : List Value → List (Nat × List Value) → List Value
  | cs, [] => cs
  | cs, (off, vs) :: r => fillL (cs.take off ++ vs ++ cs.drop (off + vs.length)) r
def cutA (A : Option Addr) (c l size : Nat) : Option Addr := if c = l then A else A.map (·.add (l * size))
noncomputable def partsL (fs : List (Nat × Nat)) (recs : List (Nat × Rec)) (ρ : Env) : List (Nat × Operand) → Option (List (Nat × List Value))
  | [] => some []
  | (i, x) :: r => match fs[i]?, ev ρ x, partsL fs recs ρ r with
    | some (t, off), some v, some l => (match look recs t with
      | some q => (match Nat.beq (cellsL v).length q.size with | true => some ((off, cellsL v) :: l) | false => none)
      | none => none)
    | _, _, _ => none
noncomputable def known {α : Type} (recs : List (Nat × α)) : List (Nat × Nat) → Bool
  | [] => true
  | (t, _) :: r => match look recs t with | some _ => known recs r | none => false
def foldI (f : Int → Int → Int) (k : IntKind) : Int → List Value → Option Value
  | a, [] => some (.int k a)
  | a, .int k' b :: r => match kindEq k k' with | true => foldI f k (f a b) r | false => none
  | _, _ => none
def imax (x y : Int) : Int := if y > x then y else x
def imin (x y : Int) : Int := if y < x then y else x
theorem imax_eq (x y : Int) : imax x y = max x y := by unfold imax; omega
theorem imin_eq (x y : Int) : imin x y = min x y := by unfold imin; omega
attribute [irreducible] imax imin
noncomputable def optInt (ρ : Env) (d : Int) : Option Operand → Option Int
  | none => some d
  | some x => match ev ρ x with | some (.int _ n) => some n | _ => none

/-- Operations that only compute. -/
noncomputable def isPure (T : Tab) : Op → Bool
  | .move _ | .assign _ | .pick .. | .nilCheck _ | .unOp .. | .build .. | .fieldAddr .. | .field .. | .indexAddr .. | .extract .. | .makeFunc .. | .makeInterface .. => true
  | .binOp _ t _ _ _ => (match T.d t with | .int _ | .bool | .ptr _ | .slice _ | .map _ _ => true | _ => false)
  | .convert s t _ => (match T.d s, T.d t with | .int _, .int _ => true | _, _ => false)
  | .slice t _ _ _ none => (match T.d t with | .slice _ => true | _ => false)
  | .call { callee := .builtin .len, args := _, argTypes } => (match argTypes.toList with | [t] => (match T.d t with | .slice _ => true | _ => false) | _ => false)
  | .call { callee := .builtin .min, args := _, argTypes } | .call { callee := .builtin .max, args := _, argTypes } => (match argTypes.toList with | t :: _ => (match T.d t with | .int _ => true | _ => false) | _ => false)
  | _ => false

noncomputable def pureVC (T : Tab) (ρ : Env) (op : Op) (K : Value → Prop) : Prop :=
  match op with
  | .move x | .assign x => W (ev ρ x) K
  | .pick c a b => (match ev ρ c, ev ρ a, ev ρ b with
    | some (.bool c), some va, some vb => Br c (K va) (K vb)
    | _, _, _ => False)
  | .nilCheck x => (match ev ρ x with
    | some (.pointer p) => Nn p fun ad => K (.pointer (some ad))
    | some (.func (.func g) a b) => K (.func (.func g) a b)
    | some (.iface t v) => K (.iface t v)
    | _ => False)
  | .unOp op _ x => (match op, ev ρ x with
    | .not, some (.bool b) => K (.bool (!b))
    | .neg, some (.int k n) => K (.int k (k.wrap (0 - n)))
    | .xor, some (.int k n) => K (.int k (bits .xor k (if k.signed then -1 else k.max) n))
    | _, _ => False)
  | .binOp op t x y _ => (match ev ρ x, ev ρ y with
    | some a, some b => binV (T.d t) op a b K
    | _, _ => False)
  | .convert _ t x => (match T.d t, ev ρ x with
    | .int k, some (.int _ n) => K (.int k (k.wrap n))
    | _, _ => False)
  | .fieldAddr s x f => (match T.d s, ev ρ x with
    | .struct fs, some (.pointer (some ad)) => (match fs[f]? with
      | some (t, off) => (match look T.recs t with
        | some q => (match Nat.beq q.size 0 with | false => K (.pointer (some (ad.add off))) | true => False)
        | none => False)
      | none => False)
    | _, _ => False)
  | .field s x f => (match T.d s, ev ρ x with
    | .struct fs, some (.agg cs) => (match fs[f]? with
      | some (t, off) => (match look T.recs t with
        | some q => (match q.d.agg with
          | true => K (.agg ((cs.toList.drop off).take q.size).toArray)
          | false => W (cs.toList[off]?) K)
        | none => False)
      | none => False)
    | _, _ => False)
  | .indexAddr t x i => (match T.d t, ev ρ x, ev ρ i with
    | .slice e, some (.slice A n _), some (.int _ j) => (match look T.recs e with
      | some q => Nn A fun ad => Sd (0 ≤ j ∧ j < n) (K (.pointer (some (ad.add (j.toNat * q.size)))))
      | none => False)
    | .arr n e, some (.pointer (some ad)), some (.int _ j) => (match look T.recs e with
      | some q => Sd (0 ≤ j ∧ j < n) (K (.pointer (some (ad.add (j.toNat * q.size)))))
      | none => False)
    | _, _, _ => False)
  | .build t parts => (match look T.recs t with
    | some q => (match q.d with
      | .struct fs => (match known T.recs fs, partsL fs T.recs ρ parts.toList with
        | true, some ps => (match ps.all (fun p => Nat.ble (p.1 + p.2.length) q.zero.length) with | true => K (.agg (fillL q.zero ps).toArray) | false => False)
        | _, _ => False)
      | _ => False)
    | none => False)
  | .extract x i => (match ev ρ x with
    | some (.tuple vs) => W (vs.toList[i]?) K
    | _ => False)
  | .makeInterface t x => (match look T.recs t, ev ρ x with
    | some q, some v => (match q.d with | .iface => False | .other => False | _ => K (.iface t v))
    | _, _ => False)
  | .makeFunc f first cap => (match evs ρ first.toList, evs ρ cap.toList with
    | some a, some b => K (.func f a.toArray b.toArray)
    | _, _ => False)
  | .slice t x lo hi none => (match T.d t, ev ρ x with
    | .slice e, some (.slice A n c) => (match look T.recs e, optInt ρ 0 lo, optInt ρ n hi with
      | some q, some l, some h => Sd (0 ≤ l ∧ l ≤ h ∧ h ≤ c) (K (.slice (cutA A c l.toNat q.size) (h.toNat - l.toNat) (c - l.toNat)))
      | _, _, _ => False)
    | _, _ => False)
  | .call { callee := .builtin b, args, argTypes := _ } => (match b, evs ρ args.toList with
    | .len, some [.slice _ n _] => K (.int .i64 n)
    | .min, some (.int k a :: r) => W (foldI imin k a r) K
    | .max, some (.int k a :: r) => W (foldI imax k a r) K
    | _, _ => False)
  | _ => False

end Go.Vc
