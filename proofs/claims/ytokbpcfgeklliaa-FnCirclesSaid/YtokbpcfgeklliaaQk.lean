/-
  The four operations on 64-bit numbers by arithmetic of natural numbers alone, quick for the kernel, held equal to the model's.
-/
import Derived.Test.YtokbpcfgeklliaaTen2
namespace Go.Proofs.Ytokbpcfgeklliaa
open Ieee
set_option linter.unusedVariables false

/-- 'f x', where the kernel first reckons 'x'. -/
def force {α : Type} (x : Nat) (f : Nat → α) : α := Nat.rec (f 0) (fun n _ => f (Nat.succ n)) x
theorem force_eq {α : Type} (x : Nat) (f : Nat → α) : force x f = f x := by cases x <;> rfl
/-- 'n / g' to the nearest, ties to even. -/
def qcut (n g : Nat) : Nat := Nat.div (Nat.add (Nat.add (Nat.mul 2 n) (Nat.sub g 1)) (Nat.mod (Nat.div n g) 2)) (Nat.mul 2 g)
def qr1 (P A B t : Nat) : Nat := force (Nat.add B t) fun bt => force (Nat.pow 2 (Nat.sub bt A)) fun g => Nat.add (Nat.mul t 4503599627370496) (qcut (Nat.shiftLeft P (Nat.sub A bt)) g)
/-- The logarithm, by a guess. -/
def qlg (g P : Nat) : Nat := cond (Nat.ble (Nat.pow 2 g) P) (cond (Nat.ble (Nat.pow 2 (Nat.add g 1)) P) (cond (Nat.ble (Nat.pow 2 (Nat.add g 2)) P) (Nat.log2 P) (Nat.add g 1)) g) (Nat.log2 P)
def qst (k P a : Nat) : Nat := cond (Nat.ble (Nat.pow 2 (Nat.add a k)) P) (Nat.add a k) a
/-- The guess, by halves. -/
def qgs (P : Nat) : Nat := force (qst 64 P 0) fun a => force (qst 32 P a) fun a => force (qst 16 P a) fun a => force (qst 8 P a) fun a => force (qst 4 P a) fun a => qst 2 P a
def qmin (x : Nat) : Nat := cond (Nat.ble x 9218868437227405312) x 9218868437227405312
def qr (P A B L : Nat) : Nat := force P fun P => cond (Nat.beq P 0) 0 (force (Nat.sub (Nat.add A (qlg L P)) (Nat.add B 52)) fun t => force (qr1 P A B t) fun r => qmin r)
def qrS (P A B : Nat) : Nat := force P fun P => force (qgs P) fun L => qr P A B L
def qm (x : Nat) : Nat := Nat.add (Nat.mod x 4503599627370496) (cond (Nat.ble 4503599627370496 x) 4503599627370496 0)
def qe (x : Nat) : Nat := Nat.sub (Nat.div x 4503599627370496) 1
def qmul (x y : Nat) : Nat := qr (Nat.mul (qm x) (qm y)) (Nat.add (qe x) (qe y)) 1074 104
def qmn (a b : Nat) : Nat := cond (Nat.ble a b) a b
def qadd1 (x y b : Nat) : Nat := qr (Nat.add (Nat.shiftLeft (qm x) (Nat.sub (qe x) b)) (Nat.shiftLeft (qm y) (Nat.sub (qe y) b))) b 0 (Nat.add 52 (Nat.add (Nat.sub (qe x) b) (Nat.sub (qe y) b)))
def qadd (x y : Nat) : Nat := force (qmn (qe x) (qe y)) fun b => qadd1 x y b
def qquo2 (x y k dv n : Nat) : Nat := qr (Nat.add (Nat.mul 2 (Nat.div dv n)) (cond (Nat.beq (Nat.mod dv n) 0) 0 1)) (Nat.add (qe x) 1074) (Nat.add (Nat.add (qe y) k) 1) 54
def qquo1 (x y m n k : Nat) : Nat := qquo2 x y k (Nat.shiftLeft m k) n
def qquo (x y : Nat) : Nat := force (qm x) fun m => force (qm y) fun n => force (Nat.sub (Nat.add 54 (qlg 52 n)) (qlg 52 m)) fun k => qquo1 x y m n k
def qsumD (α : Type) (s t : Bool) (X Y b : Nat) (k : Bool → Nat → α) : α := cond (cond s t (not t)) (force (qrS (Nat.add X Y) b 0) fun r => k s r) (cond (Nat.ble (Nat.succ X) Y) (force (qrS (Nat.sub Y X) b 0) fun r => k t r) (cond (Nat.beq X Y) (k false 0) (force (qrS (Nat.sub X Y) b 0) fun r => k s r)))
/-- The sum of two numbers with signs, neither zero, handed on. -/
def qsumG (α : Type) (s : Bool) (x : Nat) (t : Bool) (y : Nat) (k : Bool → Nat → α) : α := force (qmn (qe x) (qe y)) fun b => force (Nat.shiftLeft (qm x) (Nat.sub (qe x) b)) fun X => force (Nat.shiftLeft (qm y) (Nat.sub (qe y) b)) fun Y => qsumD α s t X Y b k

/-- The sum of two numbers with signs, handed on. -/
def qsum (α : Type) (s : Bool) (x : Nat) (t : Bool) (y : Nat) (k : Bool → Nat → α) : α := cond (Nat.beq y 0) (cond (Nat.beq x 0) (k (and s t) 0) (k s x)) (cond (Nat.beq x 0) (k t y) (qsumG α s x t y k))

/-! ### What they are -/
theorem qcut_nice (n g : Nat) : qcut n g = (2 * n + (g - 1) + n / g % 2) / (2 * g) := rfl
theorem qcut_val {n g : Nat} (hg : 0 < g) : qcut n g = n / g + (if g < 2 * (n % g) then 1 else if g = 2 * (n % g) then n / g % 2 else 0) := by
  rw [qcut_nice]
  have h1 := Nat.div_add_mod n g
  have h2 := Nat.mod_lt n hg
  generalize n / g = q at *
  generalize n % g = r at *
  have h3 : q % 2 < 2 := Nat.mod_lt _ (by omega)
  have h4 : 2 * n + (g - 1) + q % 2 = 2 * r + (g - 1) + q % 2 + 2 * g * q := by
    have : 2 * g * q = 2 * (g * q) := Nat.mul_assoc 2 g q
    omega
  rw [h4, Nat.add_mul_div_left _ _ (by omega), Nat.add_comm]
  congr 1
  by_cases c1 : g < 2 * r
  · rw [if_pos c1]
    refine Nat.div_eq_of_lt_le ?_ ?_ <;> omega
  · rw [if_neg c1]
    by_cases c2 : g = 2 * r
    · rw [if_pos c2]
      rcases Nat.mod_two_eq_zero_or_one q with h | h <;> rw [h]
      · exact Nat.div_eq_of_lt (by omega)
      · refine Nat.div_eq_of_lt_le ?_ ?_ <;> omega
    · rw [if_neg c2]
      exact Nat.div_eq_of_lt (by omega)
theorem qcut_is (n d : Nat) : Toward.even.cut false n d = qcut n (2 ^ d) := by
  rw [qcut_val (Nat.two_pow_pos d)]
  by_cases h : d ≤ n.log2 + 2
  · rw [cut_big false h]
    congr 1
    by_cases h1 : 2 ^ d < 2 * (n % 2 ^ d)
    · simp [h1]
    · by_cases h2 : 2 ^ d = 2 * (n % 2 ^ d)
      · rcases Nat.mod_two_eq_zero_or_one (n / 2 ^ d) with h3 | h3 <;> simp [← h2, h3]
      · simp [h1, h2]
  · rw [cut_small false (by omega)]
    have h1 : n < 2 ^ (n.log2 + 1) := Nat.lt_log2_self
    have h2 : 2 ^ (n.log2 + 1) * 2 ≤ 2 ^ d := by
      rw [← Nat.pow_succ]
      exact Nat.pow_le_pow_right (by omega) (by omega)
    have h3 : n < 2 ^ d := by omega
    rw [Nat.div_eq_of_lt h3, Nat.mod_eq_of_lt h3, if_neg (by omega), if_neg (by omega)]
theorem ble_is (a b : Nat) : Nat.ble a b = decide (a ≤ b) := by rw [Bool.eq_iff_iff, Nat.ble_eq, decide_eq_true_iff]
theorem beq_is (a b : Nat) : Nat.beq a b = decide (a = b) := by rw [Bool.eq_iff_iff, Nat.beq_eq, decide_eq_true_iff]
theorem qlg_is (g P : Nat) : qlg g P = P.log2 := by
  unfold qlg
  show cond (Nat.ble (2 ^ g) P) (cond (Nat.ble (2 ^ (g + 1)) P) (cond (Nat.ble (2 ^ (g + 2)) P) P.log2 (g + 1)) g) P.log2 = _
  rw [ble_is, ble_is, ble_is]
  by_cases h1 : 2 ^ g ≤ P
  · rw [decide_eq_true h1, cond_true]
    have hP : P ≠ 0 := by have := Nat.two_pow_pos g; omega
    by_cases h2 : 2 ^ (g + 1) ≤ P
    · rw [decide_eq_true h2, cond_true]
      by_cases h3 : 2 ^ (g + 2) ≤ P
      · rw [decide_eq_true h3, cond_true]
      · rw [decide_eq_false h3, cond_false]
        exact ((Nat.log2_eq_iff hP).2 ⟨h2, Nat.lt_of_not_le h3⟩).symm
    · rw [decide_eq_false h2, cond_false]
      exact ((Nat.log2_eq_iff hP).2 ⟨h1, by omega⟩).symm
  · rw [decide_eq_false h1, cond_false]
theorem qmin_is (x : Nat) : qmin x = min x FloatKind.f64.format.infRung := by
  rw [inf64]
  unfold qmin
  cases h : Nat.ble x 9218868437227405312
  · have : ¬ x ≤ 9218868437227405312 := fun h2 => by rw [Nat.ble_eq_true_of_le h2] at h; cases h
    show 9218868437227405312 = _
    omega
  · have := Nat.le_of_ble_eq_true h
    show x = _
    omega
theorem qr_is (P A B L : Nat) : nr FloatKind.f64.format P ((A : Int) - B - 1074) = qr P A B L := by
  unfold nr qr
  simp only [force_eq]
  by_cases hP : P = 0
  · subst hP; rfl
  rw [if_neg hP]
  have hb : Nat.beq P 0 = false := by
    cases h : Nat.beq P 0
    · rfl
    · exact absurd (Nat.eq_of_beq_eq_true h) hP
  rw [hb, cond_false, qmin_is, qlg_is]
  show min _ _ = min (qr1 P A B (A + P.log2 - (B + 52))) _
  obtain ⟨t, ht⟩ : ∃ t, t = A + P.log2 - (B + 52) := ⟨_, rfl⟩
  have hl : lastOf FloatKind.f64.format P ((A : Int) - B - 1074) = (t : Int) - 1074 := by
    unfold lastOf
    rw [lp64, show (FloatKind.f64.format.fractionBits : Int) = 52 from rfl, Int.max_def]
    split <;> omega
  unfold keptOf
  rw [hl, lp64, bin64, ← ht, show ((t : Int) - 1074 - -1074).toNat = t by omega, show ((A : Int) - B - 1074 - ((t : Int) - 1074)).toNat = A - (B + t) by omega, show ((t : Int) - 1074 - ((A : Int) - B - 1074)).toNat = B + t - A by omega, qcut_is]
  unfold qr1
  simp only [force_eq]
  rfl
theorem qrS_is (P A B : Nat) : nr FloatKind.f64.format P ((A : Int) - B - 1074) = qrS P A B := by
  unfold qrS
  simp only [force_eq]
  exact qr_is _ _ _ _
theorem qm_is (x : Nat) : mg FloatKind.f64.format x = qm x := by
  unfold mg qm
  rw [bin64]
  show _ = x % 4503599627370496 + cond (Nat.ble 4503599627370496 x) 4503599627370496 0
  cases h : Nat.ble 4503599627370496 x
  · have : ¬ 4503599627370496 ≤ x := fun h2 => by rw [Nat.ble_eq_true_of_le h2] at h; cases h
    rw [cond_false, if_pos (by omega)]
    omega
  · have := Nat.le_of_ble_eq_true h
    rw [cond_true, if_neg (by omega)]
    omega
theorem qe_is (x : Nat) : pl FloatKind.f64.format x = (qe x : Int) - 1074 := by
  unfold pl qe
  rw [bin64, lp64]
  show _ = ((x / 4503599627370496 - 1 : Nat) : Int) - 1074
  split <;> omega
theorem qmn_is (a b : Nat) : qmn a b = min a b := by
  unfold qmn
  cases h : Nat.ble a b
  · have : ¬ a ≤ b := fun h2 => by rw [Nat.ble_eq_true_of_le h2] at h; cases h
    show b = _
    omega
  · have := Nat.le_of_ble_eq_true h
    show a = _
    omega
abbrev W6 (s : Bool) (r : Nat) : Nat := FloatKind.f64.format.word s r
theorem inf_lt_sw : FloatKind.f64.format.infRung < FloatKind.f64.format.signWeight := by rw [inf64, sw64]; omega
theorem rd6 (s : Bool) {x : Nat} (hx : x < FloatKind.f64.format.infRung) : FloatKind.f64.format.read (W6 s x) = .number s (qm x) ((qe x : Int) - 1074) := by
  rw [read_word _ _ (Nat.lt_trans hx inf_lt_sw), rd_fin _ _ hx, qm_is, qe_is]
theorem wr6 (s : Bool) (m : Nat) (e : Int) : FloatKind.f64.format.write (.number s m e) = W6 s (nr FloatKind.f64.format m e) := nearest_eq _ _ _ _
theorem qmul_fb {s t : Bool} {x y : Nat} (hx : x < FloatKind.f64.format.infRung) (hy : y < FloatKind.f64.format.infRung) : floatBits .mul .f64 (W6 s x) (W6 t y) = some (W6 (s ^^ t) (qmul x y)) := by
  simp only [floatBits, Format.mul, rd6 _ hx, rd6 _ hy, Datum.product, Option.map, wr6]
  unfold qmul
  rw [← qr_is]
  congr 3
  show _ = ((qe x + qe y : Nat) : Int) - _ - _
  omega
theorem qmul_is {s t : Bool} {x y : Nat} (hx : x < FloatKind.f64.format.infRung) (hy : y < FloatKind.f64.format.infRung) : fo .mul .f64 (W6 s x) (W6 t y) = W6 (s ^^ t) (qmul x y) := fo_some (qmul_fb hx hy)
theorem qquo_fb {s t : Bool} {x y : Nat} (hx : x < FloatKind.f64.format.infRung) (hy : y < FloatKind.f64.format.infRung) (hn : qm y ≠ 0) : floatBits .quo .f64 (W6 s x) (W6 t y) = some (W6 (s ^^ t) (qquo x y)) := by
  simp only [floatBits, Format.div, rd6 _ hx, rd6 _ hy, Datum.quotient, if_neg hn, Option.map, wr6]
  unfold qquo qquo1 qquo2
  simp only [force_eq, qlg_is]
  rw [← qr_is]
  show some (W6 _ (nr _ (2 * (_ / _) + _) _)) = some (W6 _ (nr _ (2 * (_ / _) + cond (Nat.beq (_ % _) 0) 0 1) (((qe x + 1074 : Nat) : Int) - ((qe y + (54 + (qm y).log2 - (qm x).log2) + 1 : Nat) : Int) - 1074)))
  have hk : ((qe x : Int) - 1074 - ((qe y : Int) - 1074) - ((FloatKind.f64.format.fractionBits + 2 + (qm y).log2 - (qm x).log2 : Nat) : Int) - 1) = (((qe x + 1074 : Nat) : Int) - ((qe y + (54 + (qm y).log2 - (qm x).log2) + 1 : Nat) : Int) - 1074) := by
    have : (FloatKind.f64.format.fractionBits : Nat) = 52 := rfl
    rw [this]
    omega
  rw [hk]
  congr 4
  have hc : ∀ z : Nat, (z != 0).toNat = cond (Nat.beq z 0) 0 1 := by intro z; cases z <;> rfl
  exact hc _
theorem qquo_is {s t : Bool} {x y : Nat} (hx : x < FloatKind.f64.format.infRung) (hy : y < FloatKind.f64.format.infRung) (hn : qm y ≠ 0) : fo .quo .f64 (W6 s x) (W6 t y) = W6 (s ^^ t) (qquo x y) := fo_some (qquo_fb hx hy hn)
/-- The sum's sign and rung, neither zero. -/
def qsumQ (s : Bool) (x : Nat) (t : Bool) (y : Nat) : Bool × Nat := qsumG (Bool × Nat) s x t y Prod.mk
theorem qsumD_eq {α : Type} (s t : Bool) (X Y b : Nat) (k : Bool → Nat → α) : qsumD α s t X Y b k = k (qsumD (Bool × Nat) s t X Y b Prod.mk).1 (qsumD (Bool × Nat) s t X Y b Prod.mk).2 := by
  unfold qsumD
  simp only [force_eq]
  cases (cond s t !t) <;> simp only [cond_true, cond_false]
  cases Nat.ble X.succ Y <;> simp only [cond_true, cond_false]
  cases Nat.beq X Y <;> simp only [cond_true, cond_false]
theorem qsumG_eq {α : Type} (s : Bool) (x : Nat) (t : Bool) (y : Nat) (k : Bool → Nat → α) : qsumG α s x t y k = k (qsumQ s x t y).1 (qsumQ s x t y).2 := by
  unfold qsumQ qsumG
  simp only [force_eq]
  exact qsumD_eq _ _ _ _ _ _
theorem signed_shift (s : Bool) (m n : Nat) : signed s m n = if s then -((m <<< n : Nat) : Int) else ((m <<< n : Nat) : Int) := rfl
theorem qsumD_is (s t : Bool) (X Y b : Nat) : FloatKind.f64.format.write (.number (if (if s then -(X : Int) else X) + (if t then -(Y : Int) else Y) = 0 then s && t else decide ((if s then -(X : Int) else X) + (if t then -(Y : Int) else Y) < 0)) ((if s then -(X : Int) else X) + (if t then -(Y : Int) else Y)).natAbs ((b : Int) - 1074)) = W6 (qsumD (Bool × Nat) s t X Y b Prod.mk).1 (qsumD (Bool × Nat) s t X Y b Prod.mk).2 := by
  have hr : ∀ P, nr FloatKind.f64.format P ((b : Int) - 1074) = qrS P b 0 := by
    intro P
    rw [← qrS_is]
    congr 1
  have hw : ∀ (u v : Bool) (m : Nat), (m ≠ 0 → u = v) → (m = 0 → u = v) → FloatKind.f64.format.write (.number u m ((b : Int) - 1074)) = W6 v (qrS m b 0) := by
    intro u v m h1 h2
    have : u = v := by by_cases h : m = 0; exact h2 h; exact h1 h
    rw [wr6, hr, this]
  have hbl : Nat.ble X.succ Y = decide (X < Y) := by
    rw [Bool.eq_iff_iff, Nat.ble_eq, decide_eq_true_iff]
    exact Iff.rfl
  have hbe : Nat.beq X Y = decide (X = Y) := by
    rw [Bool.eq_iff_iff, Nat.beq_eq, decide_eq_true_iff]
  unfold qsumD
  simp only [force_eq]
  rw [hbl, hbe]
  cases s <;> cases t <;> simp only [Bool.false_eq_true, if_false, if_true, Bool.not_false, Bool.not_true, cond_true, cond_false, Bool.and_self, Bool.and_false, Bool.false_and]
  · show _ = W6 false (qrS (X + Y) b 0)
    rw [show ((X : Int) + Y).natAbs = X + Y by omega]
    refine hw _ _ _ (fun _ => ?_) (fun _ => ?_) <;> (split <;> first | rfl | exact decide_eq_false (by omega))
  · by_cases h : X < Y
    · rw [decide_eq_true h, cond_true, show ((X : Int) + -(Y : Int)).natAbs = Y - X by omega]
      refine hw _ _ _ (fun _ => ?_) (fun _ => ?_) <;> (rw [if_neg (by omega)]; exact decide_eq_true (by omega))
    · rw [decide_eq_false h, cond_false]
      by_cases h2 : X = Y
      · rw [decide_eq_true h2, cond_true, if_pos (by omega), show ((X : Int) + -(Y : Int)).natAbs = 0 by omega]
        exact hw _ _ _ (fun _ => rfl) (fun _ => rfl)
      · rw [decide_eq_false h2, cond_false, show ((X : Int) + -(Y : Int)).natAbs = X - Y by omega]
        refine hw _ _ _ (fun _ => ?_) (fun _ => ?_) <;> (rw [if_neg (by omega)]; exact decide_eq_false (by omega))
  · by_cases h : X < Y
    · rw [decide_eq_true h, cond_true, show (-(X : Int) + (Y : Int)).natAbs = Y - X by omega]
      refine hw _ _ _ (fun _ => ?_) (fun _ => ?_) <;> (rw [if_neg (by omega)]; exact decide_eq_false (by omega))
    · rw [decide_eq_false h, cond_false]
      by_cases h2 : X = Y
      · rw [decide_eq_true h2, cond_true, if_pos (by omega), show (-(X : Int) + (Y : Int)).natAbs = 0 by omega]
        exact hw _ _ _ (fun _ => rfl) (fun _ => rfl)
      · rw [decide_eq_false h2, cond_false, show (-(X : Int) + (Y : Int)).natAbs = X - Y by omega]
        refine hw _ _ _ (fun _ => ?_) (fun _ => ?_) <;> (rw [if_neg (by omega)]; exact decide_eq_true (by omega))
  · show _ = W6 true (qrS (X + Y) b 0)
    rw [show (-(X : Int) + -(Y : Int)).natAbs = X + Y by omega]
    refine hw _ _ _ (fun _ => ?_) (fun _ => ?_) <;> (split <;> first | rfl | exact decide_eq_true (by omega))
theorem qsumG_fb {s t : Bool} {x y : Nat} (hx : x < FloatKind.f64.format.infRung) (hy : y < FloatKind.f64.format.infRung) : floatBits .add .f64 (W6 s x) (W6 t y) = some (W6 (qsumQ s x t y).1 (qsumQ s x t y).2) := by
  simp only [floatBits, Format.add, rd6 _ hx, rd6 _ hy, Datum.sum, Option.map, signed_shift]
  unfold qsumQ qsumG
  simp only [force_eq]
  rw [qmn_is]
  have hb : min ((qe x : Int) - 1074) ((qe y : Int) - 1074) = ((min (qe x) (qe y) : Nat) : Int) - 1074 := by omega
  rw [hb]
  obtain ⟨b, hbb⟩ : ∃ b, b = min (qe x) (qe y) := ⟨_, rfl⟩
  rw [← hbb, show ((qe x : Int) - 1074 - ((b : Int) - 1074)).toNat = qe x - b by omega, show ((qe y : Int) - 1074 - ((b : Int) - 1074)).toNat = qe y - b by omega]
  exact congrArg some (qsumD_is s t (qm x <<< (qe x - b)) (qm y <<< (qe y - b)) b)
theorem qsumG_is {s t : Bool} {x y : Nat} (hx : x < FloatKind.f64.format.infRung) (hy : y < FloatKind.f64.format.infRung) : fo .add .f64 (W6 s x) (W6 t y) = W6 (qsumQ s x t y).1 (qsumQ s x t y).2 := fo_some (qsumG_fb hx hy)
/-- The sum's sign and rung. -/
def qsumP (s : Bool) (x : Nat) (t : Bool) (y : Nat) : Bool × Nat := qsum (Bool × Nat) s x t y Prod.mk
theorem qsum_eq {α : Type} (s : Bool) (x : Nat) (t : Bool) (y : Nat) (k : Bool → Nat → α) : qsum α s x t y k = k (qsumP s x t y).1 (qsumP s x t y).2 := by
  unfold qsumP qsum
  rw [qsumG_eq (k := k), qsumG_eq (k := Prod.mk)]
  cases Nat.beq y 0 <;> cases Nat.beq x 0 <;> rfl
theorem fin_W {s : Bool} {x : Nat} (hx : x < FloatKind.f64.format.infRung) : fin .f64 (W6 s x) = true := by
  unfold fin
  rw [rg_word .f64 s (Nat.le_of_lt hx)]
  exact decide_eq_true hx
theorem wv_W {s : Bool} {x : Nat} (hx : x < FloatKind.f64.format.infRung) : wv .f64 (W6 s x) = if s then - rv FloatKind.f64.format x else rv FloatKind.f64.format x := by
  unfold wv
  rw [rg_word .f64 s (Nat.le_of_lt hx), sg_word .f64 s (Nat.le_of_lt hx)]
theorem inf_pos : 0 < FloatKind.f64.format.infRung := by rw [inf64]; omega
theorem only_one {s u : Bool} {m x : Nat} {e : Int} (hx : x < FloatKind.f64.format.infRung) (h0 : x ≠ 0) (hv : sv u m e = if s then - rv FloatKind.f64.format x else rv FloatKind.f64.format x) : W6 u (nr FloatKind.f64.format m e) = W6 s x := by
  have hp := rv_pos FloatKind.f64.format (Nat.le_of_lt hx) (Nat.pos_of_ne_zero h0)
  have hn := vl_nonneg m e
  have h1 : u = s ∧ vl m e = rv FloatKind.f64.format x := by
    unfold sv at hv
    cases u <;> cases s <;> simp only [Bool.false_eq_true, if_false, if_true] at hv
    · exact ⟨rfl, hv⟩
    · grind
    · grind
    · exact ⟨rfl, by grind⟩
  rw [h1.1, nr_self _ (Nat.le_of_lt hx) h1.2]
theorem add_zero_r {s t : Bool} {x : Nat} (hx : x < FloatKind.f64.format.infRung) (h0 : x ≠ 0) : floatBits .add .f64 (W6 s x) (W6 t 0) = some (W6 s x) := by
  obtain ⟨u, m, e, hw, hv⟩ := add_spec (k := .f64) (fin_W (s := s) hx) (fin_W (s := t) inf_pos)
  rw [wv_W hx, wv_W inf_pos, rv_zero] at hv
  rw [hw]
  exact congrArg some (only_one hx h0 (s := s) (by rw [hv]; cases s <;> cases t <;> simp [Rat.add_zero]))
theorem add_zero_l {s t : Bool} {y : Nat} (hy : y < FloatKind.f64.format.infRung) (h0 : y ≠ 0) : floatBits .add .f64 (W6 s 0) (W6 t y) = some (W6 t y) := by
  obtain ⟨u, m, e, hw, hv⟩ := add_spec (k := .f64) (fin_W (s := s) inf_pos) (fin_W (s := t) hy)
  rw [wv_W hy, wv_W inf_pos, rv_zero] at hv
  rw [hw]
  exact congrArg some (only_one hy h0 (s := t) (by rw [hv]; cases s <;> cases t <;> simp [Rat.zero_add]))
theorem add_zeros (s t : Bool) : floatBits .add .f64 (W6 s 0) (W6 t 0) = some (W6 (and s t) 0) := by
  cases s <;> cases t <;> decide +kernel
theorem beq0 (x : Nat) : Nat.beq x 0 = decide (x = 0) := by rw [Bool.eq_iff_iff, Nat.beq_eq, decide_eq_true_iff]
theorem qsum_fb {s t : Bool} {x y : Nat} (hx : x < FloatKind.f64.format.infRung) (hy : y < FloatKind.f64.format.infRung) : floatBits .add .f64 (W6 s x) (W6 t y) = some (W6 (qsumP s x t y).1 (qsumP s x t y).2) := by
  unfold qsumP qsum
  rw [beq0, beq0]
  by_cases h1 : y = 0
  · subst h1
    by_cases h2 : x = 0
    · subst h2
      exact add_zeros s t
    · rw [decide_eq_false h2]
      exact add_zero_r hx h2
  · rw [decide_eq_false h1, cond_false]
    by_cases h2 : x = 0
    · subst h2
      exact add_zero_l hy h1
    · rw [decide_eq_false h2, cond_false]
      exact qsumG_fb hx hy
theorem qsum_is {s t : Bool} {x y : Nat} (hx : x < FloatKind.f64.format.infRung) (hy : y < FloatKind.f64.format.infRung) : fo .add .f64 (W6 s x) (W6 t y) = W6 (qsumP s x t y).1 (qsumP s x t y).2 := fo_some (qsum_fb hx hy)
theorem qdif_fb {s t : Bool} {x y : Nat} (hx : x < FloatKind.f64.format.infRung) (hy : y < FloatKind.f64.format.infRung) : floatBits .sub .f64 (W6 s x) (W6 t y) = some (W6 (qsumP s x (!t) y).1 (qsumP s x (!t) y).2) := by
  have h := qsum_fb (s := s) (t := !t) hx hy
  simp only [floatBits, Format.add, rd6 _ hx, rd6 _ hy] at h
  simp only [floatBits, Format.sub, rd6 _ hx, rd6 _ hy, Datum.opposite]
  exact h
theorem qdif_is {s t : Bool} {x y : Nat} (hx : x < FloatKind.f64.format.infRung) (hy : y < FloatKind.f64.format.infRung) : fo .sub .f64 (W6 s x) (W6 t y) = W6 (qsumP s x (!t) y).1 (qsumP s x (!t) y).2 := fo_some (qdif_fb hx hy)
theorem qadd_sum (s : Bool) (x y : Nat) : qsumQ s x s y = (s, qadd x y) := by
  unfold qsumQ qsumG qsumD qadd qadd1
  simp only [force_eq]
  rw [← qr_is]
  cases s <;> (show (_, qrS _ _ _) = _; rw [← qrS_is])
theorem qadd_is {s : Bool} {x y : Nat} (hx : x < FloatKind.f64.format.infRung) (hy : y < FloatKind.f64.format.infRung) : fo .add .f64 (W6 s x) (W6 s y) = W6 s (qadd x y) := by
  rw [qsumG_is hx hy, qadd_sum]
/-! ### Never beyond infinity -/
theorem qr_le (P A B L : Nat) : qr P A B L ≤ FloatKind.f64.format.infRung := by rw [← qr_is]; exact nr_inf _ _ _
theorem qrS_le (P A B : Nat) : qrS P A B ≤ FloatKind.f64.format.infRung := by rw [← qrS_is]; exact nr_inf _ _ _
theorem W6_lt {s : Bool} {r : Nat} (hr : r ≤ FloatKind.f64.format.infRung) (h : fin .f64 (W6 s r) = true) : r < FloatKind.f64.format.infRung := by
  unfold fin at h
  rw [rg_word .f64 s hr] at h
  exact of_decide_eq_true h
theorem qmul_le (x y : Nat) : qmul x y ≤ FloatKind.f64.format.infRung := qr_le _ _ _ _
theorem qadd_le (x y : Nat) : qadd x y ≤ FloatKind.f64.format.infRung := by unfold qadd; rw [force_eq]; exact qr_le _ _ _ _
theorem qquo_le (x y : Nat) : qquo x y ≤ FloatKind.f64.format.infRung := by unfold qquo qquo1; simp only [force_eq]; exact qr_le _ _ _ _
theorem qsumQ_le (s t : Bool) (x y : Nat) : (qsumQ s x t y).2 ≤ FloatKind.f64.format.infRung := by
  unfold qsumQ qsumG qsumD
  simp only [force_eq]
  cases (cond s t !t) <;> simp only [cond_true, cond_false]
  · generalize Nat.ble _ _ = u
    generalize Nat.beq _ _ = v
    cases u <;> cases v <;> first | exact qrS_le _ _ _ | exact Nat.zero_le _
  · exact qrS_le _ _ _
theorem qsumP_le (s t : Bool) (x y : Nat) (hx : x ≤ FloatKind.f64.format.infRung) (hy : y ≤ FloatKind.f64.format.infRung) : (qsumP s x t y).2 ≤ FloatKind.f64.format.infRung := by
  unfold qsumP qsum
  have := qsumQ_le s t x y
  unfold qsumQ at this
  cases Nat.beq y 0 <;> cases Nat.beq x 0 <;> first | exact this | exact hx | exact hy | exact Nat.zero_le _
end Go.Proofs.Ytokbpcfgeklliaa
