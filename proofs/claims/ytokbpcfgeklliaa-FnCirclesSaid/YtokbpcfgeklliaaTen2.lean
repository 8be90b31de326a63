/-
  TenthsOf: what it reckons after the loops, and that it stays small; the floor.
-/
import Derived.Test.YtokbpcfgeklliaaTen
namespace Go.Proofs.Ytokbpcfgeklliaa
open Go.RowKit
open Ieee
set_option linter.unusedVariables false

def KL2 : Nat := 4604418534313441775
def KT : Nat := 4631308968768463603
def sT (x : Nat) : Nat := fo .quo .f64 (fo .sub .f64 x K1) (fo .add .f64 x K1)
def pT (u : Nat) : Nat → Nat
  | 0 => 0
  | j + 1 => fo .add .f64 (fo .quo .f64 K1 (floatOfInt .f64 (25 - 2 * (j : Int)))) (fo .mul .f64 u (pT u j))
def lgT (x : Nat) (e : Int) : Nat := fo .add .f64 (fo .mul .f64 K2 (fo .mul .f64 (sT x) (pT (fo .mul .f64 (sT x) (sT x)) 13))) (fo .mul .f64 (floatOfInt .f64 e) KL2)
def teT (x : Nat) (e : Int) : Nat := fo .add .f64 (fo .mul .f64 (lgT x e) KT) K05
theorem pT_step (u j : Nat) : pT u (j + 1) = fo .add .f64 (fo .quo .f64 K1 (floatOfInt .f64 (25 - 2 * (j : Int)))) (fo .mul .f64 u (pT u j)) := rfl
theorem pos_wv {x : Nat} (hs : sg .f64 x = false) : 0 ≤ wv .f64 x := by rw [pos_val hs]; exact rv_nonneg _ _
theorem sT_bd {x : Nat} (hs : sg .f64 x = false) (h : Bd x 1) : Bd (sT x) 0 := by
  have hf := h.fin (by omega)
  have h1 := (wv_abs h (by omega) (by omega)).1
  have h2 : vl 1 1 = 1 + 1 := by rw [show (1 : Int) = 0 + 1 from rfl, vl1_double, vl_one_zero]
  have hp := pos_wv hs
  have hn : Bd (fo .sub .f64 x K1) 0 := by
    obtain ⟨s, m, e, hw, hv⟩ := sub_spec (k := .f64) hf K1_fin
    rw [fo_some hw]
    refine Bd_word (by omega) (by omega) ?_
    rw [sv_abs s m e, hv, wv_K1, vl_one_zero]
    rw [h2] at h1
    split <;> grind
  have hd : Bd (fo .add .f64 x K1) 2 := Bd_add (j := 1) h (by unfold Bd; decide +kernel) (by omega) (by omega)
  have h3 : rv FloatKind.f64.format K1 ≤ wv .f64 (fo .add .f64 x K1) := by
    obtain ⟨s, m, e, hw, hv⟩ := add_spec (k := .f64) hf K1_fin
    rw [fo_some hw]
    exact round_ge K1_inf (by rw [hv, wv_K1, rv_one]; grind)
  have h4 := (nonneg_sg h3).2
  have h5 : RP 0 ≤ rg .f64 (fo .add .f64 x K1) := by
    rw [show RP 0 = K1 by decide +kernel]
    by_cases h6 : K1 ≤ rg .f64 (fo .add .f64 x K1)
    · exact h6
    · have := rv_lt FloatKind.f64.format (r := rg .f64 (fo .add .f64 x K1)) (s := K1) K1_inf (by omega)
      grind
  exact Bd_quo (i := 0) (j := 0) hn (hd.fin (by omega)) h5 (by omega) (by omega) (by omega) (by omega) (by omega) (by omega)
theorem foi_25 (j : Nat) (h : j < 13) : fin .f64 (floatOfInt .f64 (25 - 2 * (j : Int))) = true ∧ RP 0 ≤ rg .f64 (floatOfInt .f64 (25 - 2 * (j : Int))) := by
  have hh : j = 0 ∨ j = 1 ∨ j = 2 ∨ j = 3 ∨ j = 4 ∨ j = 5 ∨ j = 6 ∨ j = 7 ∨ j = 8 ∨ j = 9 ∨ j = 10 ∨ j = 11 ∨ j = 12 := by omega
  rcases hh with rfl | rfl | rfl | rfl | rfl | rfl | rfl | rfl | rfl | rfl | rfl | rfl | rfl <;> decide +kernel
theorem pT_bd {u : Nat} (h : Bd u 0) : ∀ j : Nat, j ≤ 13 → Bd (pT u j) j
  | 0, _ => by unfold Bd pT; decide +kernel
  | j + 1, hj => by
    have h1 := pT_bd h j (by omega)
    obtain ⟨h2, h3⟩ := foi_25 j (by omega)
    have h4 : Bd (fo .quo .f64 K1 (floatOfInt .f64 (25 - 2 * (j : Int)))) 0 := Bd_quo (i := 0) (j := 0) (by unfold Bd; decide +kernel) h2 h3 (by omega) (by omega) (by omega) (by omega) (by omega) (by omega)
    have h5 : Bd (fo .mul .f64 u (pT u j)) j := (Bd_mul (i := 0) (j := j) h h1 (by omega) (by omega) (by omega) (by omega) (by omega) (by omega)).mono (by omega)
    have := Bd_add (j := j) (h4.mono (by omega)) h5 (by omega) (by omega)
    unfold pT
    exact this.mono (by omega)
theorem foi_bd {e : Int} (h : e.natAbs ≤ 256) : Bd (floatOfInt .f64 e) 8 := by
  have h1 : floatOfInt .f64 e = FloatKind.f64.format.word (e < 0) (nr FloatKind.f64.format e.natAbs 0) := nearest_eq _ _ _ _
  rw [h1]
  refine Bd_word (by omega) (by omega) ?_
  have h2 : vl (2 ^ 8) 0 = vl 1 8 := by rw [vl_pow]; rfl
  rw [← h2]
  exact vl_le_same.2 h
theorem teT_bd {x : Nat} {e : Int} (hs : sg .f64 x = false) (h : Bd x 1) (he : e.natAbs ≤ 256) : Bd (teT x e) 40 := by
  have h1 := sT_bd hs h
  have hu : Bd (fo .mul .f64 (sT x) (sT x)) 0 := Bd_mul (i := 0) (j := 0) h1 h1 (by omega) (by omega) (by omega) (by omega) (by omega) (by omega)
  have hp := pT_bd hu 13 (by omega)
  have h2 : Bd (fo .mul .f64 (sT x) (pT (fo .mul .f64 (sT x) (sT x)) 13)) 13 := (Bd_mul (i := 0) (j := 13) h1 hp (by omega) (by omega) (by omega) (by omega) (by omega) (by omega)).mono (by omega)
  have h3 : Bd (fo .mul .f64 K2 (fo .mul .f64 (sT x) (pT (fo .mul .f64 (sT x) (sT x)) 13))) 14 := (Bd_mul (i := 1) (j := 13) (by unfold Bd; decide +kernel) h2 (by omega) (by omega) (by omega) (by omega) (by omega) (by omega)).mono (by omega)
  have h4 : Bd (fo .mul .f64 (floatOfInt .f64 e) KL2) 8 := (Bd_mul (i := 8) (j := 0) (foi_bd he) (by unfold Bd; decide +kernel) (by omega) (by omega) (by omega) (by omega) (by omega) (by omega)).mono (by omega)
  have h5 : Bd (lgT x e) 15 := Bd_add (j := 14) h3 (h4.mono (by omega)) (by omega) (by omega)
  have h6 : Bd (fo .mul .f64 (lgT x e) KT) 21 := (Bd_mul (i := 15) (j := 6) h5 (by unfold Bd; decide +kernel) (by omega) (by omega) (by omega) (by omega) (by omega) (by omega)).mono (by omega)
  exact (Bd_add (j := 21) h6 (by unfold Bd; decide +kernel) (by omega) (by omega)).mono (by omega)
/-! ### The floor -/
def floorW (t : Nat) : Nat := FloatKind.f64.encode ((FloatKind.f64.decode t).integral .down)
theorem cut_down (neg : Bool) (n drop : Nat) : Toward.down.cut neg n drop ≤ Toward.zero.cut neg n drop + 1 := by
  have h : ∀ b : Bool, b.toNat ≤ 1 := Bool.toNat_le
  simp only [Toward.cut, Bool.toNat_false, Nat.add_zero]
  exact Nat.add_le_add_left (h _) _
theorem floorW_bd {t : Nat} (h : Bd t 40) : Bd (floorW t) 52 := by
  have hr : FloatKind.f64.decode t = _ := read_fin (h.fin (by omega))
  have hw : floorW t = FloatKind.f64.format.word (sg .f64 t) (nr FloatKind.f64.format (Toward.down.cut (sg .f64 t) ((mg FloatKind.f64.format (rg .f64 t)) <<< (pl FloatKind.f64.format (rg .f64 t)).toNat) (-(pl FloatKind.f64.format (rg .f64 t))).toNat) 0) := by
    unfold floorW
    rw [hr]
    exact nearest_eq _ _ _ _
  rw [hw]
  refine Bd_word (by omega) (by omega) ?_
  have h1 := cut_down (sg .f64 t) ((mg FloatKind.f64.format (rg .f64 t)) <<< (pl FloatKind.f64.format (rg .f64 t)).toNat) (-(pl FloatKind.f64.format (rg .f64 t))).toNat
  have h2 := whole_le (h.mono (show (40 : Int) ≤ 52 by omega))
  have h3 : whole t ≤ 2 ^ 40 := by
    have a := (whole_val t).1
    have b : rv FloatKind.f64.format (rg .f64 t) ≤ vl 1 40 := h.val (by omega) (by omega)
    have c : vl (2 ^ 40) 0 = vl 1 40 := by rw [vl_pow]; rfl
    rw [← c] at b
    exact vl_le_same.1 (rle_trans a b)
  have h4 : vl (2 ^ 52) 0 = vl 1 52 := by rw [vl_pow]; rfl
  rw [← h4]
  refine vl_le_same.2 ?_
  unfold whole at h3
  omega
theorem call_floor (b : Nat) (w : World) (h : fin .f64 b = true) : (callFunc 50 #[.float .f64 b]).run Try.prog w = .ok (.value (.float .f64 (floorW b))) w := by rw [run_callFunc_extern Try.func50 (by kernel_rfl) (by kernel_rfl) (by kernel_rfl) (e := Extern.MathFloor.toIntegral "math.archFloor" .down) (by kernel_rfl), run_integral _ _ _ _ h]; rfl
set_option maxHeartbeats 400000 in
theorem Floor_any (t : Nat) (w : World) (h : fin .f64 t = true) :
    Calls Try.prog 37 #[.float .f64 t] w fun e w' => e = .returned (.float .f64 (floorW t)) ∧ w = w' := by
  have hc := fun W => call_floor t W h
  go_enter Try.func37, Try.ntmps37
  go_wp2
  go_ret
  exact ⟨rfl, rfl⟩
/-- What TenthsOf gives of a positive number. -/
def tenP (x : Nat) : Nat × Int := up 149 (dn 128 x 0).1 (dn 128 x 0).2
def tenF (x : Nat) : Int := wholeI (floorW (teT (tenP x).1 (tenP x).2))
theorem floor_conv {t : Nat} (h : Bd t 40) : floatToIntVal .f64 (floorW t) .i64 = some (wholeI (floorW t)) := floatToInt_whole (floorW_bd h)
theorem D1_start {x : Nat} (hf : fin .f32 x = true) (hs : sg .f32 x = false) (hr : rg .f32 x ≠ 0) : D1 0 (FloatKind.f64.format.word (sg .f32 x) (wr x)) := by
  obtain ⟨_, _, _, h4⟩ := widen_is hf
  refine ⟨?_, ?_, ?_⟩
  · rw [hs]; exact sg_word .f64 _ (by have := wr_lt hf; rw [inf64]; omega)
  · have := wr_lt hf
    unfold Bd
    rw [h4]
    exact this
  · rw [h4]
    have hlt : rg .f32 x < FloatKind.f32.format.infRung := of_decide_eq_true hf
    have hp := rv_pos FloatKind.f32.format (Nat.le_of_lt hlt) (Nat.pos_of_ne_zero hr)
    have hm : mg FloatKind.f32.format (rg .f32 x) ≠ 0 := by
      intro hm
      unfold rv at hp
      rw [hm] at hp
      unfold vl at hp
      simp at hp
    have h1 : vl 1 (-149) ≤ vl (mg FloatKind.f32.format (rg .f32 x)) (pl FloatKind.f32.format (rg .f32 x)) := by
      have hpl := pl_ge FloatKind.f32.format (rg .f32 x)
      rw [lp32] at hpl
      exact rle_trans (vl1_le.2 hpl) (vl_le_same.2 (by omega))
    exact nr_ge_p2 (by omega) (by omega) h1
end Go.Proofs.Ytokbpcfgeklliaa
