/-
  Floats for the walk: what each operation gives, drawn bits included, and the canonical form under which the drawn bits of a NaN do not matter. Plain facts on words; no function of the program.
-/
import Derived.WalkKit
import Derived.WalkSpells
import Derived.WalkLawsBesides
import Derived.Deep.Draws
namespace Go.Proofs.Ytokbpcfgeklliaa
open Ieee

/-- A word is a NaN. -/
def isN (k : FloatKind) (b : Nat) : Bool := (k.format.read b).isNaN
/-- The NaN that stands for all. -/
def qn : FloatKind → Nat
  | .f32 => 2143289344
  | .f64 => 9221120237041090560
/-- A word, every NaN told as one. -/
def cn (k : FloatKind) (b : Nat) : Nat := if isN k b then qn k else b
/-- The operation on words, every NaN told as one. -/
def fo (op : BinOp) (k : FloatKind) (x y : Nat) : Nat := (floatBits op k x y).getD (qn k)
/-- The operation as it runs: a NaN's bits are the tape's. -/
def fv (op : BinOp) (k : FloatKind) (x y : Nat) (w : World) : Nat := (floatBits op k x y).getD (Question.cut (.nanBits k x y) (w.tape w.drawn (.nanBits k x y)))
/-- How many answers it draws. -/
def fd (op : BinOp) (k : FloatKind) (x y : Nat) : Nat := if (floatBits op k x y).isSome then 0 else 1

/-- A conversion between the two kinds as it runs. -/
def cv (s k : FloatKind) (b : Nat) (w : World) : Nat := (floatToFloatBits s b k).getD
  (if isN s b then Question.cut (.nanConv k b) (w.tape w.drawn (.nanConv k b)) else Question.cut (.floatToFloat b) (w.tape w.drawn (.floatToFloat b)))
def cd (s k : FloatKind) (b : Nat) : Nat := if (floatToFloatBits s b k).isSome then 0 else 1
/-- The same on words, every NaN told as one. -/
def co (s k : FloatKind) (b : Nat) : Nat := (floatToFloatBits s b k).getD (qn k)

/-! ### Runs -/
section
variable {P : Program} (w : World)

theorem run_farith (op : BinOp) (hop : op = .add ∨ op = .sub ∨ op = .mul ∨ op = .quo) (k : FloatKind) (x y : Nat) :
    (Op.floatArith op k x y).run P w = .ok (.float k (fv op k x y w)) (w.drewN (fd op k x y)) := by
  cases h : floatBits op k x y with
  | some r => rw [run_floatArith w h]; simp [fv, fd, h, World.drewN_zero]
  | none =>
    simp only [fv, fd, h, Option.isSome, Option.getD]
    rcases hop with rfl | rfl | rfl | rfl <;> simp only [floatBits] at h <;> simp [Op.floatArith, h, Question.forced, World.drew_is_drewN]

@[go_sem] theorem run_fadd (t : TypeId) (k : FloatKind) (x y : Nat) : (binOp .add t (.float k x) (.float k y)).run P w = .ok (.float k (fv .add k x y w)) (w.drewN (fd .add k x y)) := by
  simpa [binOp] using run_farith (P := P) w .add (by simp) k x y
@[go_sem] theorem run_fsub (t : TypeId) (k : FloatKind) (x y : Nat) : (binOp .sub t (.float k x) (.float k y)).run P w = .ok (.float k (fv .sub k x y w)) (w.drewN (fd .sub k x y)) := by
  simpa [binOp] using run_farith (P := P) w .sub (by simp) k x y
@[go_sem] theorem run_fmul (t : TypeId) (k : FloatKind) (x y : Nat) : (binOp .mul t (.float k x) (.float k y)).run P w = .ok (.float k (fv .mul k x y w)) (w.drewN (fd .mul k x y)) := by
  simpa [binOp] using run_farith (P := P) w .mul (by simp) k x y
@[go_sem] theorem run_fquo (t : TypeId) (k : FloatKind) (x y : Nat) : (binOp .quo t (.float k x) (.float k y)).run P w = .ok (.float k (fv .quo k x y w)) (w.drewN (fd .quo k x y)) := by
  simpa [binOp] using run_farith (P := P) w .quo (by simp) k x y

theorem run_fconv (s k : FloatKind) (b : Nat) : (Conv.floatToFloat s b k).run P w = .ok (.float k (cv s k b w)) (w.drewN (cd s k b)) := by
  cases h : floatToFloatBits s b k with
  | some r => rw [run_floatToFloat w h]; simp [cv, cd, h, World.drewN_zero]
  | none =>
    simp only [cv, cd, h, Option.isSome, Option.getD, isN]
    unfold floatToFloatBits at h
    split at h
    · cases h
    · rename_i ne
      split at h
      · rename_i sg t he
        have he' : s.format.read b = .nan sg t := he
        simp [Conv.floatToFloat, ne, he, he', Ieee.Datum.isNaN, Question.forced, World.drew_is_drewN]
      · cases h
      · rename_i sg m e he
        have he' : s.format.read b = .number sg m e := he
        split at h
        · rename_i ho
          simp [Conv.floatToFloat, ne, he, he', ho, Ieee.Datum.isNaN, Question.forced, World.drew_is_drewN]
        · cases h

@[go_sem] theorem run_convert_ff (src dst : TypeId) (s k : FloatKind) (b : Nat) (hs : (P.underlying src).isSome = true) (hd : P.underlying dst = some (.float k)) :
    (convert src dst (.float s b)).run P w = .ok (.float k (cv s k b w)) (w.drewN (cd s k b)) := by
  obtain ⟨u, hs'⟩ := Option.isSome_iff_exists.1 hs
  have := run_fconv (P := P) w s k b
  cases u <;> simp [convert, run_underlying hs', run_underlying hd, this]
end

/-! ### Words -/
theorem word_mod (f : Format) (neg : Bool) {r : Nat} (h : r < f.signWeight) : f.word neg r % f.signWeight = r := by
  unfold Format.word
  split
  · rw [Nat.add_mod_left, Nat.mod_eq_of_lt h]
  · exact Nat.mod_eq_of_lt h
theorem word_neg (f : Format) (neg : Bool) {r : Nat} (h : r < f.signWeight) : (f.word neg r / f.signWeight % 2 == 1) = neg := by
  have hp : 0 < f.signWeight := Nat.two_pow_pos _
  unfold Format.word
  cases neg
  · simp [Nat.div_eq_of_lt h]
  · simp [Nat.add_div_left _ hp, Nat.div_eq_of_lt h]
/-- What a rung stands for. -/
def rd (f : Format) (neg : Bool) (r : Nat) : Datum :=
  if r < f.binade then .number neg r f.leastPlace
  else if r < f.infRung then .number neg (f.binade + r % f.binade) (f.leastPlace + (r / f.binade - 1 : Nat))
  else if r = f.infRung then .infinity neg
  else .nan neg (r - f.infRung)
theorem read_word (f : Format) (neg : Bool) {r : Nat} (h : r < f.signWeight) : f.read (f.word neg r) = rd f neg r := by
  unfold Format.read rd
  simp only [word_mod f neg h, word_neg f neg h]
theorem read_eq (f : Format) (b : Nat) : f.read b = rd f (b / f.signWeight % 2 == 1) (b % f.signWeight) := rfl

theorem rd_notNaN (f : Format) (neg : Bool) {r : Nat} (h : r ≤ f.infRung) : (rd f neg r).isNaN = false := by
  unfold rd
  split
  · rfl
  · split
    · rfl
    · split
      · rfl
      · omega

theorem nearest_word (f : Format) (neg : Bool) (m : Nat) (e : Int) : ∃ r, r ≤ f.infRung ∧ f.nearest neg m e = f.word neg r := by
  unfold Format.nearest
  split
  · exact ⟨0, Nat.zero_le _, rfl⟩
  · exact ⟨_, Nat.min_le_right _ _, rfl⟩

theorem write_notNaN (f : Format) {d : Datum} (h : d.isNaN = false) : (f.read (f.write d)).isNaN = false := by
  cases d with
  | number s m e =>
    obtain ⟨r, hr, he⟩ := nearest_word f s m e
    show (f.read (f.nearest s m e)).isNaN = false
    rw [he, read_word f s (Nat.lt_of_le_of_lt hr f.infRung_lt)]
    exact rd_notNaN f s hr
  | infinity s =>
    show (f.read (f.word s f.infRung)).isNaN = false
    rw [read_word f s f.infRung_lt]
    exact rd_notNaN f s (Nat.le_refl _)
  | nan s t => simp [Datum.isNaN] at h

theorem sum_notNaN {a b d : Datum} (h : a.sum b = some d) : d.isNaN = false := by
  cases a <;> cases b <;> simp only [Datum.sum] at h
  all_goals first
    | (cases h; done)
    | (cases h; rfl)
    | (split at h <;> cases h; rfl)
theorem product_notNaN {a b d : Datum} (h : a.product b = some d) : d.isNaN = false := by
  cases a <;> cases b <;> simp only [Datum.product] at h
  all_goals first
    | (cases h; done)
    | (split at h <;> cases h; rfl)
    | (cases h; rfl)
theorem quotient_notNaN {n : Nat} {a b d : Datum} (h : a.quotient n b = some d) : d.isNaN = false := by
  cases a <;> cases b <;> simp only [Datum.quotient] at h
  all_goals first
    | (cases h; done)
    | (cases h; rfl)
    | (split at h
       · split at h
         · cases h
         · cases h; rfl
       · cases h; rfl)

theorem floatBits_notNaN {op : BinOp} {k : FloatKind} {x y r : Nat} (h : floatBits op k x y = some r) : isN k r = false := by
  unfold floatBits at h
  split at h
  · simp only [Format.add, Option.map_eq_some_iff] at h
    obtain ⟨d, hd, rfl⟩ := h
    exact write_notNaN _ (sum_notNaN hd)
  · simp only [Format.sub, Option.map_eq_some_iff] at h
    obtain ⟨d, hd, rfl⟩ := h
    exact write_notNaN _ (sum_notNaN hd)
  · simp only [Format.mul, Option.map_eq_some_iff] at h
    obtain ⟨d, hd, rfl⟩ := h
    exact write_notNaN _ (product_notNaN hd)
  · simp only [Format.div, Option.map_eq_some_iff] at h
    obtain ⟨d, hd, rfl⟩ := h
    exact write_notNaN _ (quotient_notNaN hd)
  · cases h

theorem isN_qn (k : FloatKind) : isN k (qn k) = true := by cases k <;> decide +kernel
theorem cn_of_not {k : FloatKind} {b : Nat} (h : isN k b = false) : cn k b = b := by simp [cn, h]
theorem cn_of_nan {k : FloatKind} {b : Nat} (h : isN k b = true) : cn k b = qn k := by simp [cn, h]
theorem isN_cn (k : FloatKind) (b : Nat) : isN k (cn k b) = isN k b := by
  unfold cn
  split
  · rename_i h; rw [isN_qn, h]
  · rfl
theorem cn_cn (k : FloatKind) (b : Nat) : cn k (cn k b) = cn k b := by
  cases h : isN k b
  · rw [cn_of_not h, cn_of_not h]
  · rw [cn_of_nan h, cn_of_nan (isN_qn k)]

theorem isN_iff (k : FloatKind) (b : Nat) : isN k b = decide (k.format.infRung < b % k.format.signWeight) := by
  unfold isN
  rw [read_eq]
  unfold rd
  have h1 : k.format.binade ≤ k.format.infRung := by cases k <;> decide +kernel
  split
  · simp [Datum.isNaN]; omega
  · split
    · simp [Datum.isNaN]; omega
    · split
      · simp [Datum.isNaN]; omega
      · simp [Datum.isNaN]; omega

theorem isN_cut (k : FloatKind) (x y t : Nat) : isN k (Question.cut (.nanBits k x y) t) = true := by
  rw [isN_iff]
  cases k
  · have e1 : FloatKind.f32.format.infRung = 2139095040 := by decide +kernel
    have e2 : FloatKind.f32.format.signWeight = 2147483648 := by decide +kernel
    rw [e1, e2]
    refine decide_eq_true ?_
    simp only [Question.cut]
    rcases Nat.mod_two_eq_zero_or_one t with h | h <;> rw [h] <;> omega
  · have e1 : FloatKind.f64.format.infRung = 9218868437227405312 := by decide +kernel
    have e2 : FloatKind.f64.format.signWeight = 9223372036854775808 := by decide +kernel
    rw [e1, e2]
    refine decide_eq_true ?_
    simp only [Question.cut]
    rcases Nat.mod_two_eq_zero_or_one t with h | h <;> rw [h] <;> omega
theorem isN_cutConv (k : FloatKind) (x t : Nat) : isN k (Question.cut (.nanConv k x) t) = true := by
  have h := isN_cut k x x t
  cases k <;> exact h

theorem fb_cn (op : BinOp) (k : FloatKind) (x y : Nat) : floatBits op k (cn k x) (cn k y) = floatBits op k x y := by
  have nl : ∀ (x y : Nat), isN k x = true → floatBits op k x y = none := by
    intro x y h
    unfold isN at h
    cases hx : k.format.read x with
    | number s m e => rw [hx] at h; simp [Datum.isNaN] at h
    | infinity s => rw [hx] at h; simp [Datum.isNaN] at h
    | nan s t => cases op <;> simp [floatBits, Format.add, Format.sub, Format.mul, Format.div, hx, Datum.sum, Datum.product, Datum.quotient]
  have nr : ∀ (x y : Nat), isN k y = true → floatBits op k x y = none := by
    intro x y h
    unfold isN at h
    cases hy : k.format.read y with
    | number s m e => rw [hy] at h; simp [Datum.isNaN] at h
    | infinity s => rw [hy] at h; simp [Datum.isNaN] at h
    | nan s t => cases op <;> cases hx : k.format.read x <;> simp [floatBits, Format.add, Format.sub, Format.mul, Format.div, hx, hy, Datum.sum, Datum.product, Datum.quotient, Datum.opposite]
  cases hx : isN k x
  · rw [cn_of_not hx]
    cases hy : isN k y
    · rw [cn_of_not hy]
    · rw [nr x y hy, nr x _ (by rw [isN_cn, hy])]
  · rw [nl x y hx, nl _ _ (by rw [isN_cn, hx])]

/-- THE LAW: under the canonical form an operation is a function of the canonical operands. -/
theorem cn_fv (op : BinOp) (k : FloatKind) (x y : Nat) (w : World) : cn k (fv op k x y w) = fo op k (cn k x) (cn k y) := by
  unfold fv fo
  rw [fb_cn]
  cases h : floatBits op k x y with
  | some r => exact cn_of_not (floatBits_notNaN h)
  | none => exact cn_of_nan (isN_cut k x y _)

theorem order_cn (k : FloatKind) (x y : Nat) : k.format.order (cn k x) (cn k y) = k.format.order x y := by
  have nl : ∀ (x y : Nat), isN k x = true → k.format.order x y = none := by
    intro x y h
    unfold isN at h
    cases hx : k.format.read x with
    | number s m e => rw [hx] at h; simp [Datum.isNaN] at h
    | infinity s => rw [hx] at h; simp [Datum.isNaN] at h
    | nan s t => simp [Format.order, hx, Datum.order]
  have nr : ∀ (x y : Nat), isN k y = true → k.format.order x y = none := by
    intro x y h
    unfold isN at h
    cases hy : k.format.read y with
    | number s m e => rw [hy] at h; simp [Datum.isNaN] at h
    | infinity s => rw [hy] at h; simp [Datum.isNaN] at h
    | nan s t => cases hx : k.format.read x <;> simp [Format.order, hx, hy, Datum.order]
  cases hx : isN k x
  · rw [cn_of_not hx]
    cases hy : isN k y
    · rw [cn_of_not hy]
    · rw [nr x y hy, nr x _ (by rw [isN_cn, hy])]
  · rw [nl x y hx, nl _ _ (by rw [isN_cn, hx])]

end Go.Proofs.Ytokbpcfgeklliaa
