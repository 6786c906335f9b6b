/- Headers, rows and the graph of a heap, in plain Lean: no program in sight. -/
import Derived.Test.YtdhbpklmkibmbaaGreatHeap1
import Derived.Test.YtdhbpklmkibmbaaGreatVcU
import Derived.Test.YtdhbpklmkibmbaaGreatVcR
namespace Go.Proofs.YtdhbpklmkibmbaaGreat
open Go.Vc

/-- A header, taken apart. -/
structure Hd where
  kind : Int
  size : Int
  ptrs : Int
  age : Int
  to : Int
def Hd.L (h : Hd) : List Value := hdL h.kind h.size h.ptrs h.age h.to
def hd0 : Hd := ⟨0, 0, 0, 0, 0⟩
/-- A word's header, if it is one. -/
def unp (x : Int) : Option Hd :=
  if x % 4 = 1 then (if 1 ≤ x / 4 % 2097152 ∧ x / 4 % 2097152 ≤ 1048576 ∧ x / 8388608 % 2097152 < x / 4 % 2097152 ∧ headW (x / 4 % 2097152) (x / 8388608 % 2097152) (x / 17592186044416 % 8) = x then some ⟨1, x / 4 % 2097152, x / 8388608 % 2097152, x / 17592186044416 % 8, 0⟩ else none)
  else if x % 4 = 2 then (if 1 ≤ x / 4 % 2097152 ∧ x / 4 % 2097152 ≤ 1048576 ∧ 2 + 4 * (x / 4 % 2097152) = x then some ⟨2, x / 4 % 2097152, 0, 0, 0⟩ else none)
  else if x % 4 = 3 then (if 1 ≤ x / 4 % 2097152 ∧ x / 4 % 2097152 ≤ 1048576 ∧ 3 + 4 * (x / 4 % 2097152) + 8388608 * (x / 8388608 % 4194304) = x then some ⟨3, x / 4 % 2097152, 0, 0, x / 8388608 % 4194304⟩ else none)
  else none
theorem unp_obj {s p g : Int} (h1 : 1 ≤ s) (h2 : s ≤ 1048576) (h3 : 0 ≤ p) (h4 : p < s) (h5 : 0 ≤ g) (h6 : g < 8) : unp (headW s p g) = some ⟨1, s, p, g, 0⟩ := by
  have e1 : headW s p g % 4 = 1 := by unfold headW; omega
  have e2 : headW s p g / 4 % 2097152 = s := by unfold headW; omega
  have e3 : headW s p g / 8388608 % 2097152 = p := by unfold headW; omega
  have e4 : headW s p g / 17592186044416 % 8 = g := by unfold headW; omega
  unfold unp
  rw [if_pos e1, e2, e3, e4, if_pos ⟨h1, h2, h4, rfl⟩]
def fillW (s : Int) : Int := 2 + 4 * s
def fwdW (s t : Int) : Int := 3 + 4 * s + 8388608 * t
theorem unp_fill {s : Int} (h1 : 1 ≤ s) (h2 : s ≤ 1048576) : unp (fillW s) = some ⟨2, s, 0, 0, 0⟩ := by
  have e1 : fillW s % 4 = 2 := by unfold fillW; omega
  have e2 : fillW s / 4 % 2097152 = s := by unfold fillW; omega
  unfold unp
  rw [if_neg (by omega), if_pos e1, e2, if_pos ⟨h1, h2, rfl⟩]
theorem unp_fwd {s t : Int} (h1 : 1 ≤ s) (h2 : s ≤ 1048576) (h3 : 0 ≤ t) (h4 : t < 4194304) : unp (fwdW s t) = some ⟨3, s, 0, 0, t⟩ := by
  have e1 : fwdW s t % 4 = 3 := by unfold fwdW; omega
  have e2 : fwdW s t / 4 % 2097152 = s := by unfold fwdW; omega
  have e3 : fwdW s t / 8388608 % 4194304 = t := by unfold fwdW; omega
  unfold unp
  rw [if_neg (by omega), if_neg (by omega), if_pos e1, e2, e3, if_pos ⟨h1, h2, rfl⟩]
theorem unp_ok {x : Int} {h : Hd} (e : unp x = some h) : 1 ≤ h.size ∧ h.size ≤ 1048576 ∧ (h.kind = 1 ∨ h.kind = 2 ∨ h.kind = 3) ∧ 0 ≤ h.ptrs ∧ h.ptrs < h.size ∧ 0 ≤ h.age ∧ h.age < 8 := by
  unfold unp at e
  split at e
  · split at e
    · rename_i g
      injection e with e
      subst e
      dsimp only
      omega
    · cases e
  · split at e
    · split at e
      · injection e with e
        subst e
        dsimp only
        omega
      · cases e
    · split at e
      · split at e
        · injection e with e
          subst e
          dsimp only
          omega
        · cases e
      · cases e
/-- The header at an address. -/
def hdr (ws : List Int) (at_ : Int) : Option Hd := if 0 ≤ at_ then (match ws[at_.toNat]? with | some x => unp x | none => none) else none
theorem hdr_some {ws : List Int} {at_ x : Int} (h0 : 0 ≤ at_) (hx : ws[at_.toNat]? = some x) : hdr ws at_ = unp x := by
  unfold hdr
  rw [if_pos h0, hx]
theorem hdr_ok {ws : List Int} {at_ : Int} {h : Hd} (e : hdr ws at_ = some h) : (0 ≤ at_ ∧ at_ < ws.length) ∧ 1 ≤ h.size ∧ h.size ≤ 1048576 ∧ (h.kind = 1 ∨ h.kind = 2 ∨ h.kind = 3) ∧ 0 ≤ h.ptrs ∧ h.ptrs < h.size ∧ 0 ≤ h.age ∧ h.age < 8 := by
  unfold hdr at e
  split at e
  · split at e
    · rename_i h0 x hx
      have := (List.getElem?_eq_some_iff.1 hx).1
      exact ⟨by omega, unp_ok e⟩
    · cases e
  · cases e
/-- What At answers: the code, and the header. -/
def atS (ws : List Int) (at_ : Int) : Hd × Int := if 0 ≤ at_ ∧ at_ < ws.length then (match hdr ws at_ with | some h => (h, 0) | none => (hd0, 30)) else (hd0, 2)
def accS (ws : List Int) (acc at_ : Int) : Int := if 0 ≤ at_ ∧ at_ < ws.length then IntKind.i64.wrap (acc + 1) else acc
/-- The headers of a row. -/
def startsF (ws : List Int) (to : Int) : Nat → Int → Option (List Int)
  | 0, _ => some []
  | n + 1, at_ => if at_ < to then (match hdr ws at_ with
      | some h => if h.kind = 3 ∨ to < at_ + h.size then none else (startsF ws to n (at_ + h.size)).map (at_ :: ·)
      | none => none) else some []
/-- Objects and fillers one behind the other. -/
inductive Tile (ws : List Int) : Int → Int → List Int → Prop
  | nil (a : Int) : Tile ws a a []
  | cons {a b : Int} {l : List Int} {h : Hd} : hdr ws a = some h → h.kind ≠ 3 → a + h.size ≤ b → Tile ws (a + h.size) b l → Tile ws a b (a :: l)
theorem Tile.le {ws : List Int} {a b : Int} {l : List Int} (h : Tile ws a b l) : a ≤ b := by
  induction h with
  | nil a => exact Int.le_refl _
  | cons h1 _ h3 _ ih => have := (hdr_ok h1).2.1; omega
theorem startsF_tile {ws : List Int} {to : Int} : ∀ (n : Nat) (a : Int), a ≤ to → (to - a).toNat ≤ n → ∀ l, (startsF ws to n a = some l ↔ Tile ws a to l) := by
  intro n
  induction n with
  | zero =>
    intro a h1 h2 l
    have : a = to := by omega
    subst this
    constructor
    · intro e
      have e : some [] = some l := e
      injection e with e
      subst e
      exact Tile.nil _
    · intro h
      cases h with
      | nil => rfl
      | cons h1 _ h3 _ => have := (hdr_ok h1).2.1; omega
  | succ n ih =>
    intro a h1 h2 l
    unfold startsF
    by_cases c : a < to
    · rw [if_pos c]
      cases hh : hdr ws a with
      | none =>
        dsimp only
        constructor
        · intro e; cases e
        · intro h
          cases h with
          | nil => omega
          | cons h1 _ _ _ => rw [hh] at h1; cases h1
      | some h =>
        dsimp only
        have hs := (hdr_ok hh).2.1
        by_cases c2 : h.kind = 3 ∨ to < a + h.size
        · rw [if_pos c2]
          constructor
          · intro e; cases e
          · intro hT
            cases hT with
            | nil => omega
            | cons h1 h2 h3 _ =>
              rw [hh] at h1
              injection h1 with h1
              subst h1
              rcases c2 with c2 | c2
              · exact absurd c2 h2
              · omega
        · rw [if_neg c2]
          have c2 := not_or.1 c2
          constructor
          · intro e
            cases hr : startsF ws to n (a + h.size) with
            | none => rw [hr] at e; cases e
            | some r =>
              rw [hr] at e
              injection e with e
              subst e
              exact Tile.cons hh c2.1 (by omega) ((ih (a + h.size) (by omega) (by omega) r).1 hr)
          · intro hT
            cases hT with
            | nil => omega
            | cons h1 h2 h3 h4 =>
              rw [hh] at h1
              injection h1 with h1
              subst h1
              rw [(ih (a + h.size) (by omega) (by omega) _).2 h4]; rfl
    · rw [if_neg c]
      have : a = to := by omega
      subst this
      constructor
      · intro e
        injection e with e
        subst e
        exact Tile.nil _
      · intro h
        cases h with
        | nil => rfl
        | cons h1 _ h3 _ => have := (hdr_ok h1).2.1; omega
def startsS (ws : List Int) (from_ to : Int) : Option (List Int) := startsF ws to (to - from_).toNat from_
theorem starts_iff {ws : List Int} {a b : Int} (h : a ≤ b) {l : List Int} : startsS ws a b = some l ↔ Tile ws a b l := startsF_tile _ a h (Nat.le_refl _) l
/-- The row's last one. -/
theorem Tile.snoc {ws : List Int} {a b : Int} {l : List Int} {h : Hd} (t : Tile ws a b l) (hh : hdr ws b = some h) (hk : h.kind ≠ 3) : Tile ws a (b + h.size) (l ++ [b]) := by
  induction t with
  | nil a => exact Tile.cons hh hk (Int.le_refl _) (Tile.nil _)
  | cons h1 h2 h3 _ ih => exact Tile.cons h1 h2 (by have := (hdr_ok hh).2.1; omega) (ih hh)
theorem hdr_congr {ws ws' : List Int} {a : Int} (h : 0 ≤ a → ws'[a.toNat]? = ws[a.toNat]?) : hdr ws' a = hdr ws a := by
  unfold hdr
  split
  · rename_i h0; rw [h h0]
  · rfl
theorem Tile.congr {ws ws' : List Int} {a b : Int} {l : List Int} (t : Tile ws a b l) (h : ∀ x ∈ l, hdr ws' x = hdr ws x) : Tile ws' a b l := by
  induction t with
  | nil a => exact Tile.nil _
  | cons h1 h2 h3 _ ih => exact Tile.cons ((h _ List.mem_cons_self).trans h1) h2 h3 (ih fun x hx => h x (List.mem_cons_of_mem _ hx))
theorem Tile.mem {ws : List Int} {a b : Int} {l : List Int} (t : Tile ws a b l) : ∀ x ∈ l, a ≤ x ∧ ∃ h, hdr ws x = some h ∧ h.kind ≠ 3 ∧ x + h.size ≤ b := by
  induction t with
  | nil a => intro x hx; cases hx
  | cons h1 h2 h3 _ ih =>
    intro x hx
    rcases List.mem_cons.1 hx with e | e
    · subst e; exact ⟨Int.le_refl _, _, h1, h2, h3⟩
    · obtain ⟨q1, q2⟩ := ih x e
      exact ⟨by have := (hdr_ok h1).2.1; omega, q2⟩
/-- Two of a row are apart. -/
theorem Tile.apart {ws : List Int} {a b : Int} {l : List Int} (t : Tile ws a b l) : l.Pairwise (fun x y => ∃ h, hdr ws x = some h ∧ x + h.size ≤ y) := by
  induction t with
  | nil a => exact List.Pairwise.nil
  | cons h1 h2 h3 t ih => exact List.Pairwise.cons (fun y hy => ⟨_, h1, (t.mem y hy).1⟩) ih
theorem Tile.append {ws : List Int} {a b c : Int} {l m : List Int} (t : Tile ws a b l) (u : Tile ws b c m) : Tile ws a c (l ++ m) := by
  induction t with
  | nil a => exact u
  | cons h1 h2 h3 _ ih => exact Tile.cons h1 h2 (by have := u.le; omega) (ih u)
theorem Tile.unique {ws : List Int} {a b : Int} {l m : List Int} (t : Tile ws a b l) (u : Tile ws a b m) : l = m := by
  have h1 := (starts_iff t.le).2 t
  have h2 := (starts_iff u.le).2 u
  rw [h1] at h2
  injection h2
end Go.Proofs.YtdhbpklmkibmbaaGreat
/- Layers 4 and 5: Pack and Unpack of any word, At. -/
namespace Go.Proofs.YtdhbpklmkibmbaaGreat
open Go.Vc

theorem or_fill {s : Nat} (_hs : s < 2 ^ 21) : 2 ||| s * 2 ^ 2 = 2 + 4 * s := by
  have := Nat.two_pow_add_eq_or_of_lt (show 2 < 2 ^ 2 by decide) s
  rw [Nat.or_comm, Nat.mul_comm s, ← this]; omega
theorem or_fwd {s t : Nat} (hs : s < 2 ^ 21) : (3 ||| t * 2 ^ 23) ||| s * 2 ^ 2 = 3 + 4 * s + 8388608 * t := by
  have a3 := Nat.two_pow_add_eq_or_of_lt (show 3 < 2 ^ 2 by decide) s
  have h3 : 3 ||| s * 2 ^ 2 = 3 + 4 * s := by rw [Nat.or_comm, Nat.mul_comm s, ← a3]; omega
  have a2 := Nat.two_pow_add_eq_or_of_lt (show 3 + 4 * s < 2 ^ 23 by omega) t
  have : (3 ||| t * 2 ^ 23) ||| s * 2 ^ 2 = t * 2 ^ 23 ||| (3 ||| s * 2 ^ 2) := by
    rw [Nat.or_comm 3, Nat.or_assoc]
  rw [this, h3, Nat.mul_comm t, ← a2]; omega
theorem bd_to {p : Nat} (h : p < 2 ^ 22) : p * 2 ^ 23 < 2 ^ 64 := by omega
/-- What Pack answers. -/
def packV (ok : Bool) (x : Int) : Value := if ok then .tuple #[.int .u64 x, .int .i64 0] else .tuple #[.int .u64 0, .int .i64 3]
set_option maxHeartbeats 1000000 in
theorem Pack_bad1 (size ptrs age : Int) (w : World) (_h1 : 0 ≤ size) (_h2 : size < 2097152) (h3 : 0 ≤ ptrs) (_h3' : ptrs < 2097152) (_h5 : 0 ≤ age) (_h6 : age < 8) (hb : ¬ (1 ≤ size ∧ size ≤ 1048576 ∧ ptrs < size)) :
    CallC Pr f_head_Pack [.agg (hdL 1 size ptrs age 0).toArray] w (fun v w' => v = .tuple #[.int .u64 0, .int .i64 3] ∧ Fr No w w') := by
  refine call_sound T_ok fun_head_Pack rfl (by kernel_rfl) rfl (Kp ?_)
  refine NewC_blk (fun p1 w1 e_p1 b1 f1 s1 => ?_)
  have b1 : Blk w1 p1 t_api_Header (hdL 1 size ptrs age 0) := b1
  refine LdC_blk (b1) rfl ?_
  refine LdN_blk (vs := hdL 1 size ptrs age 0) (b1) rfl rfl ?_
  refine NewC_blk (fun p2 w2 e_p2 b2 f2 s2 => ?_)
  have n12 : p1 ≠ p2 := by omega
  refine StN_blk (b2) rfl (Nat.le_of_ble_eq_true rfl) (fun w3 b3 f3 s3 => ?_)
  have b3 : Blk w3 p2 t_api_Header (hdL 1 size ptrs age 0) := b3
  refine StC_blk (b3) rfl rfl (fun w4 b4 f4 s4 => ?_)
  have b4 : Blk w4 p2 t_api_Header (hdL 0 size ptrs age 0) := b4
  refine StC_blk (b4) rfl rfl (fun w5 b5 f5 s5 => ?_)
  have f25 := (f3.same f4).same f5
  have b1 := (b1.keep f2 id).keep f25 n12
  have F : Fr No w w5 := (f1.no f2).new f25 (fun _ _ e => e) (fun k e => by have e : k = p2 := e; omega)
  refine LdC_blk (b1) rfl ?_
  refine Br_dec (fun g1 => ?_) (fun g1 => ?_)
  rotate_left
  · refine LdC_blk (b1) rfl ?_
    refine LdC_blk (b1) rfl ?_
    refine Sd_intro ((by decide)) ?_
    refine LdC_blk (b1) rfl ?_
    refine Sd_intro ((by decide)) ?_
    exact ⟨rfl, F⟩
  have g1 : size ≥ 1 := g1
  refine LdC_blk (b1) rfl ?_
  refine LdC_blk (b1) rfl ?_
  refine Br_dec (fun g2 => ?_) (fun g2 => ?_)
  rotate_left
  · refine LdC_blk (b1) rfl ?_
    refine Sd_intro ((by decide)) ?_
    refine LdC_blk (b1) rfl ?_
    refine Sd_intro ((by decide)) ?_
    exact ⟨rfl, F⟩
  have g2 : size ≤ 1048576 := g2
  refine LdC_blk (b1) rfl ?_
  refine Br_dt (show ptrs ≥ 0 by omega) ?_
  refine LdC_blk (b1) rfl ?_
  refine LdC_blk (b1) rfl ?_
  refine Br_df (show ¬ ptrs < size from fun e => hb ⟨g1, g2, e⟩) ?_
  refine LdC_blk (b1) rfl ?_
  refine Sd_intro ((by decide)) ?_
  refine LdC_blk (b1) rfl ?_
  refine Sd_intro ((by decide)) ?_
  exact ⟨rfl, F⟩
set_option maxHeartbeats 1000000 in
theorem Pack_fill (size : Int) (w : World) (h1 : 0 ≤ size) (h2 : size < 2097152) :
    CallC Pr f_head_Pack [.agg (hdL 2 size 0 0 0).toArray] w (fun v w' => v = packV (decide (1 ≤ size ∧ size ≤ 1048576)) (fillW size) ∧ Fr No w w') := by
  refine call_sound T_ok fun_head_Pack rfl (by kernel_rfl) rfl (Kp ?_)
  refine NewC_blk (fun p1 w1 e_p1 b1 f1 s1 => ?_)
  have b1 : Blk w1 p1 t_api_Header (hdL 2 size 0 0 0) := b1
  refine LdC_blk (b1) rfl ?_
  refine LdN_blk (vs := hdL 2 size 0 0 0) (b1) rfl rfl ?_
  refine NewC_blk (fun p2 w2 e_p2 b2 f2 s2 => ?_)
  have n12 : p1 ≠ p2 := by omega
  refine StN_blk (b2) rfl (Nat.le_of_ble_eq_true rfl) (fun w3 b3 f3 s3 => ?_)
  have b3 : Blk w3 p2 t_api_Header (hdL 2 size 0 0 0) := b3
  refine StC_blk (b3) rfl rfl (fun w4 b4 f4 s4 => ?_)
  have b4 : Blk w4 p2 t_api_Header (hdL 0 size 0 0 0) := b4
  refine StC_blk (b4) rfl rfl (fun w5 b5 f5 s5 => ?_)
  have b5 : Blk w5 p2 t_api_Header (hdL 0 0 0 0 0) := b5
  have f25 := (f3.same f4).same f5
  have b1 := (b1.keep f2 id).keep f25 n12
  have F : Fr No w w5 := (f1.no f2).new f25 (fun _ _ e => e) (fun k e => by have e : k = p2 := e; omega)
  refine LdC_blk (b1) rfl ?_
  refine Br_dec (fun g1 => ?_) (fun g1 => ?_)
  rotate_left
  · have g1 : ¬ size ≥ 1 := g1
    refine LdC_blk (b1) rfl ?_
    rw [decide_eq_false (show ¬ (1 ≤ size ∧ size ≤ 1048576) by omega)]
    exact ⟨rfl, F⟩
  have g1 : size ≥ 1 := g1
  refine LdC_blk (b1) rfl ?_
  refine LdC_blk (b1) rfl ?_
  refine Br_dec (fun g2 => ?_) (fun g2 => ?_)
  rotate_left
  · have g2 : ¬ size ≤ 1048576 := g2
    rw [decide_eq_false (show ¬ (1 ≤ size ∧ size ≤ 1048576) by omega)]
    exact ⟨rfl, F⟩
  have g2 : size ≤ 1048576 := g2
  refine LdN_blk (vs := hdL 0 0 0 0 0) (b5) rfl rfl ?_
  refine EqS (by kernel_rfl) ?_
  refine LdC_blk (b1) rfl ?_
  refine Sd_intro ((by decide)) ?_
  rw [decide_eq_true (show (1 ≤ size ∧ size ≤ 1048576) from ⟨g1, g2⟩)]
  refine ⟨?_, F⟩
  show Value.tuple #[.int .u64 (Vc.bits .or .u64 (IntKind.u64.wrap 2) (shiftV .shl .u64 (IntKind.u64.wrap size) (Int.toNat 2))), .int .i64 0] = .tuple #[.int .u64 (fillW size), .int .i64 0]
  obtain ⟨s, rfl⟩ := Int.eq_ofNat_of_zero_le (show 0 ≤ size by omega)
  have hs : s < 2 ^ 21 := by omega
  have bs := bd_size hs
  rw [show Int.toNat 2 = 2 from rfl, show IntKind.u64.wrap 2 = ((2 : Nat) : Int) from by decide, wrap_u64 (n := (s : Int)) (by omega) (by omega), Go.Proofs.YtdhbpklmkibmbaaGreat.shl_u64 (by decide) bs, or_u64 (show 2 < 2 ^ 64 by decide) bs, or_fill hs]
  unfold fillW
  congr 1
set_option maxHeartbeats 1000000 in
theorem Pack_fwd (size to : Int) (w : World) (h1 : 0 ≤ size) (h2 : size < 2097152) (h3 : 0 ≤ to) (h4 : to < 4194304) :
    CallC Pr f_head_Pack [.agg (hdL 3 size 0 0 to).toArray] w (fun v w' => v = packV (decide (1 ≤ size ∧ size ≤ 1048576)) (fwdW size to) ∧ Fr No w w') := by
  refine call_sound T_ok fun_head_Pack rfl (by kernel_rfl) rfl (Kp ?_)
  refine NewC_blk (fun p1 w1 e_p1 b1 f1 s1 => ?_)
  have b1 : Blk w1 p1 t_api_Header (hdL 3 size 0 0 to) := b1
  refine LdC_blk (b1) rfl ?_
  refine LdN_blk (vs := hdL 3 size 0 0 to) (b1) rfl rfl ?_
  refine NewC_blk (fun p2 w2 e_p2 b2 f2 s2 => ?_)
  have n12 : p1 ≠ p2 := by omega
  refine StN_blk (b2) rfl (Nat.le_of_ble_eq_true rfl) (fun w3 b3 f3 s3 => ?_)
  have b3 : Blk w3 p2 t_api_Header (hdL 3 size 0 0 to) := b3
  refine StC_blk (b3) rfl rfl (fun w4 b4 f4 s4 => ?_)
  have b4 : Blk w4 p2 t_api_Header (hdL 0 size 0 0 to) := b4
  refine StC_blk (b4) rfl rfl (fun w5 b5 f5 s5 => ?_)
  have f25 := (f3.same f4).same f5
  have b1 := (b1.keep f2 id).keep f25 n12
  have F : Fr No w w5 := (f1.no f2).new f25 (fun _ _ e => e) (fun k e => by have e : k = p2 := e; omega)
  refine LdC_blk (b1) rfl ?_
  refine Br_dec (fun g1 => ?_) (fun g1 => ?_)
  rotate_left
  · have g1 : ¬ size ≥ 1 := g1
    refine LdC_blk (b1) rfl ?_
    refine LdC_blk (b1) rfl ?_
    refine Sd_intro ((by decide)) ?_
    rw [decide_eq_false (show ¬ (1 ≤ size ∧ size ≤ 1048576) by omega)]
    exact ⟨rfl, F⟩
  have g1 : size ≥ 1 := g1
  refine LdC_blk (b1) rfl ?_
  refine LdC_blk (b1) rfl ?_
  refine Br_dec (fun g2 => ?_) (fun g2 => ?_)
  rotate_left
  · have g2 : ¬ size ≤ 1048576 := g2
    refine LdC_blk (b1) rfl ?_
    refine Sd_intro ((by decide)) ?_
    rw [decide_eq_false (show ¬ (1 ≤ size ∧ size ≤ 1048576) by omega)]
    exact ⟨rfl, F⟩
  have g2 : size ≤ 1048576 := g2
  refine LdC_blk (b1) rfl ?_
  refine Br_dt (show to ≥ 0 by omega) ?_
  refine LdC_blk (b1) rfl ?_
  refine Br_dt h4 ?_
  refine LdC_blk (b1) rfl ?_
  refine LdC_blk (b1) rfl ?_
  refine LdC_blk (b1) rfl ?_
  refine Sd_intro ((by decide)) ?_
  refine LdC_blk (b1) rfl ?_
  refine Sd_intro ((by decide)) ?_
  rw [decide_eq_true (show (1 ≤ size ∧ size ≤ 1048576) from ⟨g1, g2⟩)]
  refine ⟨?_, F⟩
  show Value.tuple #[.int .u64 (Vc.bits .or .u64 (Vc.bits .or .u64 (IntKind.u64.wrap 3) (shiftV .shl .u64 (IntKind.u64.wrap to) (Int.toNat 23))) (shiftV .shl .u64 (IntKind.u64.wrap size) (Int.toNat 2))), .int .i64 0] = .tuple #[.int .u64 (fwdW size to), .int .i64 0]
  obtain ⟨s, rfl⟩ := Int.eq_ofNat_of_zero_le (show 0 ≤ size by omega)
  obtain ⟨t, rfl⟩ := Int.eq_ofNat_of_zero_le h3
  have hs : s < 2 ^ 21 := by omega
  have ht : t < 2 ^ 22 := by omega
  have bs := bd_size hs
  have bt := bd_to ht
  have b3' : 3 < 2 ^ 64 := by decide
  rw [show Int.toNat 2 = 2 from rfl, show Int.toNat 23 = 23 from rfl, show IntKind.u64.wrap 3 = ((3 : Nat) : Int) from by decide, wrap_u64 (n := (s : Int)) (by omega) (by omega), wrap_u64 (n := (t : Int)) (by omega) (by omega), Go.Proofs.YtdhbpklmkibmbaaGreat.shl_u64 (by decide) bs, Go.Proofs.YtdhbpklmkibmbaaGreat.shl_u64 (by decide) bt, or_u64 b3' bt, or_u64 (Nat.or_lt_two_pow b3' bt) bs, or_fwd hs]
  unfold fwdW
  congr 1
set_option maxHeartbeats 1000000 in
theorem Pack_none (size : Int) (w : World) (h1 : 0 ≤ size) (h2 : size < 2097152) :
    CallC Pr f_head_Pack [.agg (hdL 0 size 0 0 0).toArray] w (fun v w' => v = packV (decide (size = 0)) 0 ∧ Fr No w w') := by
  refine call_sound T_ok fun_head_Pack rfl (by kernel_rfl) rfl (Kp ?_)
  refine NewC_blk (fun p1 w1 e_p1 b1 f1 s1 => ?_)
  have b1 : Blk w1 p1 t_api_Header (hdL 0 size 0 0 0) := b1
  refine LdC_blk (b1) rfl ?_
  refine LdN_blk (vs := hdL 0 size 0 0 0) (b1) rfl rfl ?_
  refine NewC_blk (fun p2 w2 e_p2 b2 f2 s2 => ?_)
  have n12 : p1 ≠ p2 := by omega
  refine StN_blk (b2) rfl (Nat.le_of_ble_eq_true rfl) (fun w3 b3 f3 s3 => ?_)
  have b3 : Blk w3 p2 t_api_Header (hdL 0 size 0 0 0) := b3
  refine StC_blk (b3) rfl rfl (fun w4 b4 f4 s4 => ?_)
  have b4 : Blk w4 p2 t_api_Header (hdL 0 size 0 0 0) := b4
  refine StC_blk (b4) rfl rfl (fun w5 b5 f5 s5 => ?_)
  have b5 : Blk w5 p2 t_api_Header (hdL 0 0 0 0 0) := b5
  have f25 := (f3.same f4).same f5
  have b1 := (b1.keep f2 id).keep f25 n12
  have F : Fr No w w5 := (f1.no f2).new f25 (fun _ _ e => e) (fun k e => by have e : k = p2 := e; omega)
  by_cases c : size = 0
  · subst c
    refine LdC_blk (b1) rfl ?_
    refine LdC_blk (b1) rfl ?_
    refine LdC_blk (b1) rfl ?_
    refine LdN_blk (vs := hdL 0 0 0 0 0) (b5) rfl rfl ?_
    refine EqS (by kernel_rfl) ?_
    refine LdC_blk (b1) rfl ?_
    refine Sd_intro ((by decide)) ?_
    refine ⟨?_, F⟩
    show Value.tuple #[.int .u64 (Vc.bits .or .u64 (IntKind.u64.wrap 0) (shiftV .shl .u64 (IntKind.u64.wrap 0) (Int.toNat 2))), .int .i64 0] = .tuple #[.int .u64 0, .int .i64 0]
    have e : Vc.bits .or .u64 (IntKind.u64.wrap 0) (shiftV .shl .u64 (IntKind.u64.wrap 0) (Int.toNat 2)) = 0 := by
      rw [show Int.toNat 2 = 2 from rfl, show IntKind.u64.wrap 0 = ((0 : Nat) : Int) from by decide, Go.Proofs.YtdhbpklmkibmbaaGreat.shl_u64 (by decide) (by decide), or_u64 (by decide) (by decide)]
      rfl
    rw [e]
  · rw [decide_eq_false c]
    refine LdC_blk (b1) rfl ?_
    refine Br_dt (show size ≥ 1 by omega) ?_
    refine LdC_blk (b1) rfl ?_
    refine LdC_blk (b1) rfl ?_
    refine LdC_blk (b1) rfl ?_
    refine Br_df c ?_
    exact ⟨rfl, F⟩
theorem part_spec (x a m : Nat) (w : World) (hx : x < 2 ^ 64) (ha : a ≤ 44) (hm : m ≤ 22) : CallC Pr f_head_part [.int .u64 x, .int .u64 a, .int .u64 m] w (fun v w' => v = .int .i64 ((x / 2 ^ a % 2 ^ m : Nat) : Int) ∧ Fr No w w') := by
  refine call_sound T_ok fun_head_part rfl (by kernel_rfl) rfl (Kp ?_)
  refine Sd_intro ((by omega)) ?_
  refine Sd_intro ((by omega)) ?_
  refine ⟨?_, Fr.refl _ _⟩
  show Value.int .i64 (IntKind.i64.wrap (Vc.bits .and .u64 (shiftV .shr .u64 (x : Int) ((a : Int)).toNat) (IntKind.u64.wrap (shiftV .shl .u64 1 ((m : Int)).toNat - 1)))) = _
  have hp : (2 : Nat) ^ m ≤ 2 ^ 22 := Nat.pow_le_pow_right (by decide) hm
  have hp0 : 0 < (2 : Nat) ^ m := Nat.pow_pos (by decide)
  have e1 : shiftV .shl .u64 1 m = ((2 ^ m : Nat) : Int) := by
    have := Go.Proofs.YtdhbpklmkibmbaaGreat.shl_u64 (x := 1) (n := m) (by omega) (by omega)
    rw [Nat.one_mul] at this
    exact this
  have e2 : IntKind.u64.wrap (((2 ^ m : Nat) : Int) - 1) = ((2 ^ m - 1 : Nat) : Int) := by
    rw [wrap_u64 (by omega) (by omega)]; omega
  have hs : x >>> a < 2 ^ 64 := shrN_lt a hx
  rw [Int.toNat_natCast, Int.toNat_natCast, shr_u64 x (by omega), e1, e2, and_u64 hs (by omega), Nat.and_two_pow_sub_one_eq_mod, Nat.shiftRight_eq_div_pow]
  have : x / 2 ^ a % 2 ^ m < 2 ^ m := Nat.mod_lt _ hp0
  rw [wrap_i64 (by omega) (by omega)]
theorem and3 {x : Nat} (h : x < 2 ^ 64) : Vc.bits .and .u64 (x : Int) 3 = ((x % 4 : Nat) : Int) := by
  have := and_u64 h (show 3 < 2 ^ 64 by decide)
  rw [show x &&& 3 = x % 4 from Nat.and_two_pow_sub_one_eq_mod x 2] at this
  exact this
/-- What Unpack answers. -/
def unpV (x : Int) : Value := if x = 0 then .tuple #[.agg hd0.L.toArray, .int .i64 0] else match unp x with | some h => .tuple #[.agg h.L.toArray, .int .i64 0] | none => .tuple #[.agg hd0.L.toArray, .int .i64 30]
set_option maxHeartbeats 2000000 in
theorem Unpack_spec (x : Int) (w : World) (h0 : 0 ≤ x) (h1 : x ≤ 18446744073709551615) : CallC Pr f_head_Unpack [.int .u64 x] w (fun v w' => v = unpV x ∧ Fr No w w') := by
  obtain ⟨n, rfl⟩ := Int.eq_ofNat_of_zero_le h0
  have hn : n < 2 ^ 64 := by omega
  obtain ⟨sz, esz⟩ : ∃ s : Int, s = ((n / 2 ^ 2 % 2 ^ 21 : Nat) : Int) := ⟨_, rfl⟩
  obtain ⟨pt, ept⟩ : ∃ s : Int, s = ((n / 2 ^ 23 % 2 ^ 21 : Nat) : Int) := ⟨_, rfl⟩
  obtain ⟨ag, eag⟩ : ∃ s : Int, s = ((n / 2 ^ 44 % 2 ^ 3 : Nat) : Int) := ⟨_, rfl⟩
  obtain ⟨to, eto⟩ : ∃ s : Int, s = ((n / 2 ^ 23 % 2 ^ 22 : Nat) : Int) := ⟨_, rfl⟩
  have u1 : (n : Int) / 4 % 2097152 = sz := by omega
  have u2 : (n : Int) / 8388608 % 2097152 = pt := by omega
  have u3 : (n : Int) / 17592186044416 % 8 = ag := by omega
  have u4 : (n : Int) / 8388608 % 4194304 = to := by omega
  have s0 : 0 ≤ sz ∧ sz < 2097152 := by omega
  have p0 : 0 ≤ pt ∧ pt < 2097152 := by omega
  have a0 : 0 ≤ ag ∧ ag < 8 := by omega
  have t0 : 0 ≤ to ∧ to < 4194304 := by omega
  obtain ⟨kv, ekv⟩ : ∃ k : Int, k = IntKind.i64.wrap (Vc.bits .and .u64 (n : Int) 3) := ⟨_, rfl⟩
  have hkv : kv = ((n % 4 : Nat) : Int) := by rw [ekv, and3 hn, wrap_i64 (by omega) (by omega)]
  have bad : ∀ {w' : World}, (unpV (n : Int) = .tuple #[.agg hd0.L.toArray, .int .i64 30]) → Fr No w w' → Value.tuple #[.agg hd0.L.toArray, .int .i64 30] = unpV (n : Int) ∧ Fr No w w' := fun e f => ⟨e.symm, f⟩
  refine call_sound T_ok fun_head_Unpack rfl (by kernel_rfl) rfl (Kp ?_)
  refine NewC_blk (fun p2 w1 e_p2 b2 f1 z1 => ?_)
  have b2 : Blk w1 p2 t_api_Header hd0.L := b2
  have P1 := part_spec n 2 21 w1 hn (by decide) (by decide)
  rw [← esz] at P1
  refine CallC_intro P1 (fun v w2 ⟨hv, f2⟩ => ?_)
  subst hv
  refine NewC_blk (fun p4 w3 e_p4 b4 f3 z3 => ?_)
  refine StN_blk (b4) rfl (Nat.le_of_ble_eq_true rfl) (fun w4 b4 f4 z4 => ?_)
  have b4 : Blk w4 p4 t_api_Header (hdL kv sz 0 0 0) := by rw [ekv]; exact b4
  have F4 : Fr No w w4 := (f1.no f2).no (f3.new f4 (fun _ _ e => e) (fun k e => by omega))
  have n24 : p2 ≠ p4 := by have := f2.size; omega
  have b2 := ((b2.keep f2 id).keep f3 id).keep f4 n24
  refine LdC_blk (b4) rfl ?_
  have k4 : kv = 0 ∨ kv = 1 ∨ kv = 2 ∨ kv = 3 := by omega
  by_cases c1 : kv = 1
  · refine Br_dt c1 ?_
    have P2 := part_spec n 23 21 w4 hn (by decide) (by decide)
    rw [← ept] at P2
    refine CallC_intro P2 (fun v w5 ⟨hv, f5⟩ => ?_)
    subst hv
    have P3 := part_spec n 44 3 w5 hn (by decide) (by decide)
    rw [← eag] at P3
    refine CallC_intro P3 (fun v w6 ⟨hv, f6⟩ => ?_)
    subst hv
    have f46 := f5.no f6
    refine StC_blk (b4.keep f46 id) rfl rfl (fun w7 b7 f7 z7 => ?_)
    refine StC_blk (b7) rfl rfl (fun w8 b8 f8 z8 => ?_)
    have b8 : Blk w8 p4 t_api_Header (hdL 1 sz pt ag 0) := by rw [← c1]; exact b8
    have F8 : Fr No w w8 := (F4.no f46).new (f7.same f8) (fun _ _ e => e) (fun k e => by have e : k = p4 := e; have := f1.size; have := f2.size; omega)
    have b2 := (b2.keep f46 id).keep (f7.same f8) n24
    have hx1 : (n : Int) % 4 = 1 := by omega
    refine LdN_blk (vs := hdL 1 sz pt ag 0) (b8) rfl rfl ?_
    by_cases ok : 1 ≤ sz ∧ sz ≤ 1048576 ∧ pt < sz
    · refine CallC_intro (Pack_obj sz pt ag w8 ok.1 ok.2.1 p0.1 ok.2.2 a0.1 a0.2) (fun v w9 ⟨hv, f9⟩ => ?_)
      subst hv
      refine Br_ndec (fun e => ?_) (fun e => ?_)
      · have e : ¬ headW sz pt ag = (n : Int) := e
        refine StN_blk (b2.keep f9 id) rfl (Nat.le_of_ble_eq_true rfl) (fun w10 b10 f10 z10 => ?_)
        have b10 : Blk w10 p2 t_api_Header hd0.L := b10
        refine LdN_blk (vs := hd0.L) (b10) rfl rfl ?_
        refine bad ?_ ((F8.no f9).new f10 (fun _ _ e => e) (fun k e => by have e : k = p2 := e; omega))
        unfold unpV unp
        rw [if_neg (by omega), if_pos hx1, u1, u2, u3, if_neg (fun q => e q.2.2.2)]
      · have e : headW sz pt ag = (n : Int) := e
        refine LdN_blk (vs := hdL 1 sz pt ag 0) (b8.keep f9 id) rfl rfl ?_
        refine StN_blk (b2.keep f9 id) rfl (Nat.le_of_ble_eq_true rfl) (fun w10 b10 f10 z10 => ?_)
        have b10 : Blk w10 p2 t_api_Header (hdL 1 sz pt ag 0) := b10
        refine LdN_blk (vs := hdL 1 sz pt ag 0) (b10) rfl rfl ?_
        refine ⟨?_, (F8.no f9).new f10 (fun _ _ e => e) (fun k e => by have e : k = p2 := e; omega)⟩
        unfold unpV unp
        rw [if_neg (by omega), if_pos hx1, u1, u2, u3, if_pos ⟨ok.1, ok.2.1, ok.2.2, e⟩]
        rfl
    · refine CallC_intro (Pack_bad1 sz pt ag w8 s0.1 s0.2 p0.1 p0.2 a0.1 a0.2 ok) (fun v w9 ⟨hv, f9⟩ => ?_)
      subst hv
      refine StN_blk (b2.keep f9 id) rfl (Nat.le_of_ble_eq_true rfl) (fun w10 b10 f10 z10 => ?_)
      have b10 : Blk w10 p2 t_api_Header hd0.L := b10
      refine LdN_blk (vs := hd0.L) (b10) rfl rfl ?_
      refine bad ?_ ((F8.no f9).new f10 (fun _ _ e => e) (fun k e => by have e : k = p2 := e; omega))
      unfold unpV unp
      rw [if_neg (by omega), if_pos hx1, u1, u2, u3, if_neg (fun q => ok ⟨q.1, q.2.1, q.2.2.1⟩)]
  refine Br_df c1 ?_
  by_cases c3 : kv = 3
  · refine Br_dt c3 ?_
    have P2 := part_spec n 23 22 w4 hn (by decide) (by decide)
    rw [← eto] at P2
    refine CallC_intro P2 (fun v w5 ⟨hv, f5⟩ => ?_)
    subst hv
    refine StC_blk (b4.keep f5 id) rfl rfl (fun w8 b8 f8 z8 => ?_)
    have b8 : Blk w8 p4 t_api_Header (hdL 3 sz 0 0 to) := by rw [← c3]; exact b8
    have F8 : Fr No w w8 := (F4.no f5).new f8 (fun _ _ e => e) (fun k e => by have e : k = p4 := e; have := f1.size; have := f2.size; omega)
    have b2 := (b2.keep f5 id).keep f8 n24
    have hx1 : (n : Int) % 4 = 3 := by omega
    refine LdN_blk (vs := hdL 3 sz 0 0 to) (b8) rfl rfl ?_
    by_cases ok : 1 ≤ sz ∧ sz ≤ 1048576
    · have Pk := Pack_fwd sz to w8 s0.1 s0.2 t0.1 t0.2
      rw [decide_eq_true ok] at Pk
      refine CallC_intro Pk (fun v w9 ⟨hv, f9⟩ => ?_)
      subst hv
      refine Br_ndec (fun e => ?_) (fun e => ?_)
      · have e : ¬ fwdW sz to = (n : Int) := e
        refine StN_blk (b2.keep f9 id) rfl (Nat.le_of_ble_eq_true rfl) (fun w10 b10 f10 z10 => ?_)
        have b10 : Blk w10 p2 t_api_Header hd0.L := b10
        refine LdN_blk (vs := hd0.L) (b10) rfl rfl ?_
        refine bad ?_ ((F8.no f9).new f10 (fun _ _ e => e) (fun k e => by have e : k = p2 := e; omega))
        unfold unpV unp; rw [if_neg (by omega), if_neg (by omega), if_neg (by omega), if_pos hx1, u1, u4, if_neg (fun q => e q.2.2)]
      · have e : fwdW sz to = (n : Int) := e
        refine LdN_blk (vs := hdL 3 sz 0 0 to) (b8.keep f9 id) rfl rfl ?_
        refine StN_blk (b2.keep f9 id) rfl (Nat.le_of_ble_eq_true rfl) (fun w10 b10 f10 z10 => ?_)
        have b10 : Blk w10 p2 t_api_Header (hdL 3 sz 0 0 to) := b10
        refine LdN_blk (vs := hdL 3 sz 0 0 to) (b10) rfl rfl ?_
        refine ⟨?_, (F8.no f9).new f10 (fun _ _ e => e) (fun k e => by have e : k = p2 := e; omega)⟩
        unfold unpV unp; rw [if_neg (by omega), if_neg (by omega), if_neg (by omega), if_pos hx1, u1, u4, if_pos ⟨ok.1, ok.2, e⟩]
        rfl
    · have Pk := Pack_fwd sz to w8 s0.1 s0.2 t0.1 t0.2
      rw [decide_eq_false ok] at Pk
      refine CallC_intro Pk (fun v w9 ⟨hv, f9⟩ => ?_)
      subst hv
      refine StN_blk (b2.keep f9 id) rfl (Nat.le_of_ble_eq_true rfl) (fun w10 b10 f10 z10 => ?_)
      have b10 : Blk w10 p2 t_api_Header hd0.L := b10
      refine LdN_blk (vs := hd0.L) (b10) rfl rfl ?_
      refine bad ?_ ((F8.no f9).new f10 (fun _ _ e => e) (fun k e => by have e : k = p2 := e; omega))
      unfold unpV unp; rw [if_neg (by omega), if_neg (by omega), if_neg (by omega), if_pos hx1, u1, u4, if_neg (fun q => ok ⟨q.1, q.2.1⟩)]
  refine Br_df c3 ?_
  by_cases c2 : kv = 2
  · have b8 : Blk w4 p4 t_api_Header (hdL 2 sz 0 0 0) := by rw [← c2]; exact b4
    have F8 := F4
    have hx1 : (n : Int) % 4 = 2 := by omega
    refine LdN_blk (vs := hdL 2 sz 0 0 0) (b8) rfl rfl ?_
    by_cases ok : 1 ≤ sz ∧ sz ≤ 1048576
    · have Pk := Pack_fill sz w4 s0.1 s0.2
      rw [decide_eq_true ok] at Pk
      refine CallC_intro Pk (fun v w9 ⟨hv, f9⟩ => ?_)
      subst hv
      refine Br_ndec (fun e => ?_) (fun e => ?_)
      · have e : ¬ fillW sz = (n : Int) := e
        refine StN_blk (b2.keep f9 id) rfl (Nat.le_of_ble_eq_true rfl) (fun w10 b10 f10 z10 => ?_)
        have b10 : Blk w10 p2 t_api_Header hd0.L := b10
        refine LdN_blk (vs := hd0.L) (b10) rfl rfl ?_
        refine bad ?_ ((F8.no f9).new f10 (fun _ _ e => e) (fun k e => by have e : k = p2 := e; omega))
        unfold unpV unp; rw [if_neg (by omega), if_neg (by omega), if_pos hx1, u1, if_neg (fun q => e q.2.2)]
      · have e : fillW sz = (n : Int) := e
        refine LdN_blk (vs := hdL 2 sz 0 0 0) (b8.keep f9 id) rfl rfl ?_
        refine StN_blk (b2.keep f9 id) rfl (Nat.le_of_ble_eq_true rfl) (fun w10 b10 f10 z10 => ?_)
        have b10 : Blk w10 p2 t_api_Header (hdL 2 sz 0 0 0) := b10
        refine LdN_blk (vs := hdL 2 sz 0 0 0) (b10) rfl rfl ?_
        refine ⟨?_, (F8.no f9).new f10 (fun _ _ e => e) (fun k e => by have e : k = p2 := e; omega)⟩
        unfold unpV unp; rw [if_neg (by omega), if_neg (by omega), if_pos hx1, u1, if_pos ⟨ok.1, ok.2, e⟩]
        rfl
    · have Pk := Pack_fill sz w4 s0.1 s0.2
      rw [decide_eq_false ok] at Pk
      refine CallC_intro Pk (fun v w9 ⟨hv, f9⟩ => ?_)
      subst hv
      refine StN_blk (b2.keep f9 id) rfl (Nat.le_of_ble_eq_true rfl) (fun w10 b10 f10 z10 => ?_)
      have b10 : Blk w10 p2 t_api_Header hd0.L := b10
      refine LdN_blk (vs := hd0.L) (b10) rfl rfl ?_
      refine bad ?_ ((F8.no f9).new f10 (fun _ _ e => e) (fun k e => by have e : k = p2 := e; omega))
      unfold unpV unp; rw [if_neg (by omega), if_neg (by omega), if_pos hx1, u1, if_neg (fun q => ok ⟨q.1, q.2.1⟩)]
  have c0 : kv = 0 := by omega
  have b8 : Blk w4 p4 t_api_Header (hdL 0 sz 0 0 0) := by rw [c0] at b4; exact b4
  have F8 := F4
  have hx1 : (n : Int) % 4 = 0 := by omega
  refine LdN_blk (vs := hdL 0 sz 0 0 0) (b8) rfl rfl ?_
  by_cases ok : sz = 0
  · have Pk := Pack_none sz w4 s0.1 s0.2
    rw [decide_eq_true ok] at Pk
    refine CallC_intro Pk (fun v w9 ⟨hv, f9⟩ => ?_)
    subst hv
    refine Br_ndec (fun e => ?_) (fun e => ?_)
    · have e : ¬ (0 : Int) = (n : Int) := e
      refine StN_blk (b2.keep f9 id) rfl (Nat.le_of_ble_eq_true rfl) (fun w10 b10 f10 z10 => ?_)
      have b10 : Blk w10 p2 t_api_Header hd0.L := b10
      refine LdN_blk (vs := hd0.L) (b10) rfl rfl ?_
      refine bad ?_ ((F8.no f9).new f10 (fun _ _ e => e) (fun k e => by have e : k = p2 := e; omega))
      unfold unpV unp; rw [if_neg (fun q => e q.symm), if_neg (by omega), if_neg (by omega), if_neg (by omega)]
    · have e : (0 : Int) = (n : Int) := e
      refine LdN_blk (vs := hdL 0 sz 0 0 0) (b8.keep f9 id) rfl rfl ?_
      refine StN_blk (b2.keep f9 id) rfl (Nat.le_of_ble_eq_true rfl) (fun w10 b10 f10 z10 => ?_)
      have b10 : Blk w10 p2 t_api_Header (hdL 0 sz 0 0 0) := b10
      refine LdN_blk (vs := hdL 0 sz 0 0 0) (b10) rfl rfl ?_
      refine ⟨?_, (F8.no f9).new f10 (fun _ _ e => e) (fun k e => by have e : k = p2 := e; omega)⟩
      unfold unpV; rw [if_pos e.symm, ok]
      rfl
  · have Pk := Pack_none sz w4 s0.1 s0.2
    rw [decide_eq_false ok] at Pk
    refine CallC_intro Pk (fun v w9 ⟨hv, f9⟩ => ?_)
    subst hv
    refine StN_blk (b2.keep f9 id) rfl (Nat.le_of_ble_eq_true rfl) (fun w10 b10 f10 z10 => ?_)
    have b10 : Blk w10 p2 t_api_Header hd0.L := b10
    refine LdN_blk (vs := hd0.L) (b10) rfl rfl ?_
    refine bad ?_ ((F8.no f9).new f10 (fun _ _ e => e) (fun k e => by have e : k = p2 := e; omega))
    unfold unpV unp; rw [if_neg (by omega), if_neg (by omega), if_neg (by omega), if_neg (by omega)]
set_option maxHeartbeats 1000000 in
theorem At_spec {b r : Nat} {acc : Int} {ws : List Int} (i : Int) (w : World) (h : IsArena w b r acc ws) (hb : -9223372036854775808 ≤ i ∧ i ≤ 9223372036854775807) :
    CallC Pr f_parse_At [.pointer (some ⟨b, 0, none⟩), .int .i64 i] w (fun v w' => v = .tuple #[.agg (atS ws i).1.L.toArray, .int .i64 (atS ws i).2] ∧ IsArena w' b r (accS ws acc i) ws ∧ Fr (· = b) w w') := by
  unfold atS accS
  by_cases c : 0 ≤ i ∧ i < (ws.length : Int)
  · rw [if_pos c, if_pos c]
    have hx := List.getElem?_eq_getElem (show i.toNat < ws.length by omega)
    obtain ⟨x, ex⟩ : ∃ x, x = ws[i.toNat]'(by omega) := ⟨_, rfl⟩
    rw [← ex] at hx
    have hxb := h.us x (List.mem_of_getElem? hx)
    rw [hdr_some c.1 hx]
    refine call_sound T_ok fun_parse_At rfl (by kernel_rfl) rfl (Kp ?_)
    refine NewC_blk (fun p w1 e_p b1 f1 z1 => ?_)
    have b1 : Blk w1 p t_api_Header hd0.L := b1
    refine CallC_intro (Load_in i w1 (h.keep f1 id id) c.1 hx) (fun v w2 ⟨hv, hA, f2⟩ => ?_)
    subst hv
    have np : p ≠ b := by have := h.lt.1; omega
    have b2 := b1.keep f2 np
    have F2 : Fr (· = b) w w2 := f1.noL f2
    refine CallC_intro (Unpack_spec x w2 hxb.1 hxb.2) (fun v w3 ⟨hv, f3⟩ => ?_)
    have hA3 := hA.keep f3 id id
    have b3 := b2.keep f3 id
    have F3 := F2.noR f3
    have z2 := f2.size
    have z3 := f3.size
    unfold unpV at hv
    by_cases c0 : x = 0
    · rw [if_pos c0] at hv
      subst hv
      have e0 : unp x = none := by rw [c0]; rfl
      rw [e0]
      refine NewC_blk (fun q w4 e_q b4 f4 z4 => ?_)
      refine StN_blk (b4) rfl (Nat.le_of_ble_eq_true rfl) (fun w5 b5 f5 z5 => ?_)
      have b5 : Blk w5 q t_api_Header hd0.L := b5
      have f35 : Fr No w3 w5 := f4.new f5 (fun _ _ e => e) (fun k e => by omega)
      refine LdC_blk (b5) rfl ?_
      refine StN_blk (b3.keep f35 id) rfl (Nat.le_of_ble_eq_true rfl) (fun w6 b6 f6 z6 => ?_)
      have b6 : Blk w6 p t_api_Header hd0.L := b6
      refine LdN_blk (vs := hd0.L) (b6) rfl rfl ?_
      have f36 : Fr (· = p) w3 w6 := f35.noL f6
      exact ⟨rfl, hA3.keep f36 np.symm (fun e => by have := h.lt.2; have e : r = p := e; omega), F3.new f36 (fun _ _ e => e) (fun k e => by have e : k = p := e; omega)⟩
    · rw [if_neg c0] at hv
      cases hh : unp x with
      | none =>
        rw [hh] at hv
        subst hv
        refine NewC_blk (fun q w4 e_q b4 f4 z4 => ?_)
        refine StN_blk (b4) rfl (Nat.le_of_ble_eq_true rfl) (fun w5 b5 f5 z5 => ?_)
        have b5 : Blk w5 q t_api_Header hd0.L := b5
        have f35 : Fr No w3 w5 := f4.new f5 (fun _ _ e => e) (fun k e => by omega)
        refine StN_blk (b3.keep f35 id) rfl (Nat.le_of_ble_eq_true rfl) (fun w6 b6 f6 z6 => ?_)
        have b6 : Blk w6 p t_api_Header hd0.L := b6
        refine LdN_blk (vs := hd0.L) (b6) rfl rfl ?_
        have f36 : Fr (· = p) w3 w6 := f35.noL f6
        exact ⟨rfl, hA3.keep f36 np.symm (fun e => by have := h.lt.2; have e : r = p := e; omega), F3.new f36 (fun _ _ e => e) (fun k e => by have e : k = p := e; omega)⟩
      | some hd =>
        rw [hh] at hv
        subst hv
        have hk := (unp_ok hh).2.2.1
        refine NewC_blk (fun q w4 e_q b4 f4 z4 => ?_)
        refine StN_blk (b4) rfl (Nat.le_of_ble_eq_true rfl) (fun w5 b5 f5 z5 => ?_)
        have b5 : Blk w5 q t_api_Header hd.L := b5
        have f35 : Fr No w3 w5 := f4.new f5 (fun _ _ e => e) (fun k e => by omega)
        refine LdC_blk (b5) rfl ?_
        refine Br_df (show ¬ hd.kind = 0 by omega) ?_
        refine LdN_blk (vs := hd.L) (b5) rfl rfl ?_
        refine StN_blk (b3.keep f35 id) rfl (Nat.le_of_ble_eq_true rfl) (fun w6 b6 f6 z6 => ?_)
        have b6 : Blk w6 p t_api_Header hd.L := b6
        refine LdN_blk (vs := hd.L) (b6) rfl rfl ?_
        have f36 : Fr (· = p) w3 w6 := f35.noL f6
        exact ⟨rfl, hA3.keep f36 np.symm (fun e => by have := h.lt.2; have e : r = p := e; omega), F3.new f36 (fun _ _ e => e) (fun k e => by have e : k = p := e; omega)⟩
  · rw [if_neg c, if_neg c]
    refine call_sound T_ok fun_parse_At rfl (by kernel_rfl) rfl (Kp ?_)
    refine NewC_blk (fun p w1 e_p b1 f1 z1 => ?_)
    have b1 : Blk w1 p t_api_Header hd0.L := b1
    refine CallC_intro (Load_out i w1 (h.keep f1 id id) hb c) (fun v w2 ⟨hv, f2⟩ => ?_)
    subst hv
    have b2 := b1.keep f2 id
    have F2 := f1.no f2
    refine StN_blk (b2) rfl (Nat.le_of_ble_eq_true rfl) (fun w3 b3 f3 z3 => ?_)
    have b3 : Blk w3 p t_api_Header hd0.L := b3
    refine LdN_blk (vs := hd0.L) (b3) rfl rfl ?_
    have hl := h.lt
    have F3 : Fr No w w3 := F2.new f3 (fun _ _ e => e) (fun k e => by have e : k = p := e; omega)
    exact ⟨rfl, h.keep F3 id id, F3.weak (fun _ _ e => e.elim)⟩
end Go.Proofs.YtdhbpklmkibmbaaGreat
