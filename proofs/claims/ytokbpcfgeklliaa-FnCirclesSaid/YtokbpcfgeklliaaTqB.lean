/-
  The tenths of decibels of n/64, reckoned by the quick operations: they are what the functions give.
-/
import Derived.Test.YtokbpcfgeklliaaTq
namespace Go.Proofs.Ytokbpcfgeklliaa
open Ieee
set_option linter.unusedVariables false

/-! ### The series of the logarithm -/
def qh12 (u p : Nat) : Nat := force (qmul u p) fun m => qadd 4607182418800017408 m
def qh11 (u p : Nat) : Nat := force (qmul u p) fun m => force (qadd 4599676419421066581 m) fun p => qh12 u p
def qh10 (u p : Nat) : Nat := force (qmul u p) fun m => force (qadd 4596373779694328218 m) fun p => qh11 u p
def qh9 (u p : Nat) : Nat := force (qmul u p) fun m => force (qadd 4594314991293244562 m) fun p => qh10 u p
def qh8 (u p : Nat) : Nat := force (qmul u p) fun m => force (qadd 4592670820000712476 m) fun p => qh9 u p
def qh7 (u p : Nat) : Nat := force (qmul u p) fun m => force (qadd 4591215111030249286 m) fun p => qh8 u p
def qh6 (u p : Nat) : Nat := force (qmul u p) fun m => force (qadd 4590207312512236308 m) fun p => qh7 u p
def qh5 (u p : Nat) : Nat := force (qmul u p) fun m => force (qadd 4589468260265693457 m) fun p => qh6 u p
def qh4 (u p : Nat) : Nat := force (qmul u p) fun m => force (qadd 4588638185040256542 m) fun p => qh5 u p
def qh3 (u p : Nat) : Nat := force (qmul u p) fun m => force (qadd 4587745830934523688 m) fun p => qh4 u p
def qh2 (u p : Nat) : Nat := force (qmul u p) fun m => force (qadd 4587023449039406616 m) fun p => qh3 u p
def qh1 (u p : Nat) : Nat := force (qmul u p) fun m => force (qadd 4586426698778222948 m) fun p => qh2 u p
def qh0 (u p : Nat) : Nat := force (qmul u p) fun m => force (qadd 4585925428558828667 m) fun p => qh1 u p
def qpT (u : Nat) : Nat := qh0 u 0
/-- The logarithm of a number from 0.75 to 1.5: sign and rung. -/
def qlnS (s : Nat) : Nat := force (qmul s s) fun u => force (qpT u) fun p => force (qmul s p) fun z => qmul 4611686018427387904 z
def qln0 (α : Type) (x : Nat) (k : Bool → Nat → α) : α := qsum α false x true 4607182418800017408 fun g r => force (qadd x 4607182418800017408) fun d => force (qquo r d) fun s => force (qlnS s) fun a => k g a
def qln (α : Type) (x : Nat) (k : Bool → Nat → α) : α := cond (Nat.beq x 4607182418800017408) (k false 0) (qln0 α x k)
def qte (α : Type) (g : Bool) (a : Nat) (h : Bool) (b : Nat) (k : Bool → Nat → α) : α := qsum α g a h b fun s l => force (qmul l 4631308968768463603) fun t => qsum α s t false 4602678819172646912 k
/-- The whole number below, and 2000. -/
def qfl (s : Bool) (r : Nat) : Nat := force (Nat.pow 2 (Nat.sub 1074 (qe r))) fun g => force (qm r) fun m => cond s (Nat.sub 2000 (Nat.add (Nat.div m g) (cond (Nat.beq (Nat.mod m g) 0) 0 1))) (Nat.add 2000 (Nat.div m g))
/-- With the reduced number x and the exponent E - 6. -/
def qtX (x E : Nat) : Nat := force (cond (Nat.ble 6 E) (Nat.sub E 6) (Nat.sub 6 E)) fun z => force (qrS z 1074 0) fun y => force (qmul y 4604418534313441775) fun b => qln Nat x fun g a => qte Nat g a (not (Nat.ble 6 E)) b qfl
/-- The tenths of n/64, and 2000. -/
def qten (n : Nat) : Nat := force (qlg 12 n) fun L => force (Nat.shiftLeft n (Nat.sub 52 L)) fun c => cond (Nat.ble 6755399441055744 c) (force (Nat.add 4598175219545276416 c) fun x => qtX x (Nat.succ L)) (force (Nat.add 4602678819172646912 c) fun x => qtX x L)

theorem lt0 {r : Nat} (hr : r ≤ FloatKind.f64.format.infRung) (h : fin .f64 r = true) : r < FloatKind.f64.format.infRung := W6_lt (s := false) hr h
theorem pT_q {u j p c : Nat} (hb : Bd u 0) (hu : u < FloatKind.f64.format.infRung) (hj : j < 13) (h : pT u j = p) (hc : fo .quo .f64 K1 (floatOfInt .f64 (25 - 2 * (j : Int))) = c ∧ c < FloatKind.f64.format.infRung) (hp : p ≤ FloatKind.f64.format.infRung) : pT u (j + 1) = qadd c (qmul u p) := by
  have h1 := pT_bd hb j (by omega)
  have hpl : p < FloatKind.f64.format.infRung := by
    rw [h] at h1
    exact W6_lt (s := false) hp (h1.fin (by omega))
  have h3 := qmul_is (s := false) (t := false) hu hpl
  have h4 : Bd (fo .mul .f64 u (pT u j)) j := (Bd_mul (i := 0) (j := j) hb h1 (by omega) (by omega) (by omega) (by omega) (by omega) (by omega)).mono (by omega)
  rw [h] at h4
  rw [W6f, W6f] at h3
  rw [h3] at h4
  have h5 : qmul u p < FloatKind.f64.format.infRung := W6_lt (s := false ^^ false) (qmul_le _ _) (h4.fin (by omega))
  rw [pT_step, hc.1, h, h3]
  exact (qadd_is (s := false) hc.2 h5).trans (W6f _)
theorem qpT_is {u : Nat} (hb : Bd u 0) (hu : u < FloatKind.f64.format.infRung) : pT u 13 = qpT u := by
  have h0 : pT u 0 = 0 := rfl
  have h1 := pT_q (j := 0) (c := 4585925428558828667) hb hu (by omega) h0 (by decide +kernel) (Nat.zero_le _)
  have h2 := pT_q (j := 1) (c := 4586426698778222948) hb hu (by omega) h1 (by decide +kernel) (qadd_le _ _)
  have h3 := pT_q (j := 2) (c := 4587023449039406616) hb hu (by omega) h2 (by decide +kernel) (qadd_le _ _)
  have h4 := pT_q (j := 3) (c := 4587745830934523688) hb hu (by omega) h3 (by decide +kernel) (qadd_le _ _)
  have h5 := pT_q (j := 4) (c := 4588638185040256542) hb hu (by omega) h4 (by decide +kernel) (qadd_le _ _)
  have h6 := pT_q (j := 5) (c := 4589468260265693457) hb hu (by omega) h5 (by decide +kernel) (qadd_le _ _)
  have h7 := pT_q (j := 6) (c := 4590207312512236308) hb hu (by omega) h6 (by decide +kernel) (qadd_le _ _)
  have h8 := pT_q (j := 7) (c := 4591215111030249286) hb hu (by omega) h7 (by decide +kernel) (qadd_le _ _)
  have h9 := pT_q (j := 8) (c := 4592670820000712476) hb hu (by omega) h8 (by decide +kernel) (qadd_le _ _)
  have h10 := pT_q (j := 9) (c := 4594314991293244562) hb hu (by omega) h9 (by decide +kernel) (qadd_le _ _)
  have h11 := pT_q (j := 10) (c := 4596373779694328218) hb hu (by omega) h10 (by decide +kernel) (qadd_le _ _)
  have h12 := pT_q (j := 11) (c := 4599676419421066581) hb hu (by omega) h11 (by decide +kernel) (qadd_le _ _)
  have h13 := pT_q (j := 12) (c := 4607182418800017408) hb hu (by omega) h12 (by decide +kernel) (qadd_le _ _)
  rw [h13]
  unfold qpT qh0 qh1 qh2 qh3 qh4 qh5 qh6 qh7 qh8 qh9 qh10 qh11 qh12
  simp only [force_eq]
/-- Twice the series: the logarithm of the reduced number. -/
def lnT (x : Nat) : Nat := fo .mul .f64 K2 (fo .mul .f64 (sT x) (pT (fo .mul .f64 (sT x) (sT x)) 13))
theorem lnT_bd {x : Nat} (hs : sg .f64 x = false) (h : Bd x 1) : Bd (fo .mul .f64 (sT x) (sT x)) 0 ∧ Bd (pT (fo .mul .f64 (sT x) (sT x)) 13) 13 ∧ Bd (fo .mul .f64 (sT x) (pT (fo .mul .f64 (sT x) (sT x)) 13)) 13 ∧ Bd (lnT x) 14 := by
  have h1 := sT_bd hs h
  have hu : Bd (fo .mul .f64 (sT x) (sT x)) 0 := Bd_mul (i := 0) (j := 0) h1 h1 (by omega) (by omega) (by omega) (by omega) (by omega) (by omega)
  have hp := pT_bd hu 13 (by omega)
  have h2 : Bd (fo .mul .f64 (sT x) (pT (fo .mul .f64 (sT x) (sT x)) 13)) 13 := (Bd_mul (i := 0) (j := 13) h1 hp (by omega) (by omega) (by omega) (by omega) (by omega) (by omega)).mono (by omega)
  exact ⟨hu, hp, h2, (Bd_mul (i := 1) (j := 13) (by unfold Bd; decide +kernel) h2 (by omega) (by omega) (by omega) (by omega) (by omega) (by omega)).mono (by omega)⟩
theorem qln0_is {x : Nat} (hx : x < K15) : ∃ g a, a ≤ FloatKind.f64.format.infRung ∧ (∀ (α : Type) (k : Bool → Nat → α), qln0 α x k = k g a) ∧ lnT x = W6 g a := by
  have hxi : x < FloatKind.f64.format.infRung := by rw [inf64]; unfold K15 at hx; omega
  have hki : K1 < FloatKind.f64.format.infRung := by rw [inf64]; decide
  obtain ⟨_, hs, hr⟩ := pos_facts hxi
  have hb : Bd x 1 := by
    unfold Bd
    rw [hr, show RP 1 = 4611686018427387904 by decide +kernel]
    unfold K15 at hx
    omega
  obtain ⟨hu, hp, h2, h3⟩ := lnT_bd hs hb
  have hsT := sT_bd hs hb
  have hd := qdif_is (s := false) (t := false) hxi hki
  have ha := qadd_is (s := false) hxi hki
  have hdB : Bd (fo .sub .f64 x K1) 2 := Bd_sub (j := 1) hb (by unfold Bd; decide +kernel) (by omega) (by omega)
  have haB : Bd (fo .add .f64 x K1) 2 := Bd_add (j := 1) hb (by unfold Bd; decide +kernel) (by omega) (by omega)
  have h5 : RP 0 ≤ rg .f64 (fo .add .f64 x K1) := by
    have hpv := pos_wv hs
    have hv3 : rv FloatKind.f64.format K1 ≤ wv .f64 (fo .add .f64 x K1) := by
      obtain ⟨s, m, e, hw, hv⟩ := add_spec (k := .f64) (hb.fin (by omega)) K1_fin
      rw [fo_some hw]
      exact round_ge K1_inf (by rw [hv, wv_K1, rv_one]; grind)
    have h4 := (nonneg_sg hv3).2
    rw [show RP 0 = K1 by decide +kernel]
    by_cases h6 : K1 ≤ rg .f64 (fo .add .f64 x K1)
    · exact h6
    · have := rv_lt FloatKind.f64.format (r := rg .f64 (fo .add .f64 x K1)) (s := K1) K1_inf (by omega)
      grind
  rw [W6f, W6f] at hd ha
  rw [hd] at hdB
  rw [ha] at haB h5
  have di := W6_lt (qsumP_le _ _ _ _ (Nat.le_of_lt hxi) (Nat.le_of_lt hki)) (hdB.fin (by omega))
  have ai := W6_lt (s := false) (qadd_le _ _) (haB.fin (by omega))
  rw [rg_word .f64 false (qadd_le _ _)] at h5
  have an : qm (qadd x K1) ≠ 0 := by
    rw [← qm_is]
    unfold mg
    rw [bin64]
    have : RP 0 = 4607182418800017408 := by decide +kernel
    rw [if_neg (by omega)]
    omega
  have hq := qquo_is (s := (qsumP false x (!false) K1).1) (t := false) di ai an
  rw [← hd, ← ha, Bool.xor_false] at hq
  change sT x = _ at hq
  obtain ⟨g, hg⟩ : ∃ g, g = (qsumP false x (!false) K1).1 := ⟨_, rfl⟩
  obtain ⟨s, hse⟩ : ∃ s, s = qquo (qsumP false x (!false) K1).2 (qadd x K1) := ⟨_, rfl⟩
  rw [← hg, ← hse] at hq
  have si : s < FloatKind.f64.format.infRung := by
    rw [hq] at hsT
    exact W6_lt (s := g) (by rw [hse]; exact qquo_le _ _) (hsT.fin (by omega))
  have hm := qmul_is (s := g) (t := g) si si
  rw [← hq, Bool.xor_self, W6f] at hm
  rw [hm] at hu hp h2
  have ui : qmul s s < FloatKind.f64.format.infRung := lt0 (qmul_le _ _) (hu.fin (by omega))
  have hpq := qpT_is hu ui
  have pi : qpT (qmul s s) < FloatKind.f64.format.infRung := by
    rw [hpq] at hp
    refine lt0 ?_ (hp.fin (by omega))
    unfold qpT qh0 qh1 qh2 qh3 qh4 qh5 qh6 qh7 qh8 qh9 qh10 qh11 qh12
    simp only [force_eq]
    exact qadd_le _ _
  have hz := qmul_is (s := g) (t := false) si pi
  rw [← hq, W6f, ← hpq, Bool.xor_false] at hz
  rw [hz, hpq] at h2
  have zi : qmul s (qpT (qmul s s)) < FloatKind.f64.format.infRung := W6_lt (qmul_le _ _) (h2.fin (by omega))
  have hk := qmul_is (s := false) (t := g) (x := K2) (y := qmul s (qpT (qmul s s))) (by rw [inf64]; decide) zi
  refine ⟨g, qmul K2 (qmul s (qpT (qmul s s))), qmul_le _ _, ?_, ?_⟩
  · intro α k
    unfold qln0 qlnS
    rw [qsum_eq]
    simp only [force_eq]
    rw [hg, hse]
    rfl
  · unfold lnT
    rw [hm, hz, hpq]
    rw [W6f, Bool.false_xor] at hk
    exact hk
theorem lnT_one : lnT K1 = W6 false 0 := by decide +kernel
theorem qln_is {x : Nat} (hx : x < K15) : ∃ g a, a ≤ FloatKind.f64.format.infRung ∧ (∀ (α : Type) (k : Bool → Nat → α), qln α x k = k g a) ∧ lnT x = W6 g a := by
  by_cases h : x = K1
  · refine ⟨false, 0, Nat.zero_le _, fun α k => ?_, by rw [h]; exact lnT_one⟩
    unfold qln
    rw [show Nat.beq x 4607182418800017408 = true by rw [h]; decide, cond_true]
  · obtain ⟨g, a, h1, h2, h3⟩ := qln0_is hx
    refine ⟨g, a, h1, fun α k => ?_, h3⟩
    unfold qln
    have hb : Nat.beq x 4607182418800017408 = false := by
      cases hh : Nat.beq x 4607182418800017408
      · rfl
      · exact absurd (Nat.eq_of_beq_eq_true hh) h
    rw [hb, cond_false]
    exact h2 α k
end Go.Proofs.Ytokbpcfgeklliaa
