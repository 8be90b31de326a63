/-
  PhasorOf: the quarters, both sides, the law.
-/
import Derived.Test.YtokbpcfgeklliaaSinL
namespace Go.Proofs.Ytokbpcfgeklliaa
open Go.RowKit
set_option linter.unusedVariables false

@[go_sem] theorem complex_rule (ats : Array TypeId) (ty : TypeId) (k : FloatKind) (a b : Nat) : Builtin.complex_ ats ty #[.float k a, .float k b] = pure (.complex k a b) := if_pos rfl
@[go_sem] theorem real_rule (ats : Array TypeId) (ty : TypeId) (k : FloatKind) (a b : Nat) : Builtin.real_ ats ty #[.complex k a b] = pure (.float k a) := rfl
@[go_sem] theorem imag_rule (ats : Array TypeId) (ty : TypeId) (k : FloatKind) (a b : Nat) : Builtin.imag_ ats ty #[.complex k a b] = pure (.float k b) := rfl
@[go_sem] theorem run_convert_cc {P : Program} (w : World) (src dst : TypeId) (s k : FloatKind) (a b : Nat) (hs : (P.underlying src).isSome = true) (hd : P.underlying dst = some (.complex k)) :
    (convert src dst (.complex s a b)).run P w = .ok (.complex k (cv s k a w) (cv s k b (w.drewN (cd s k a)))) ((w.drewN (cd s k a)).drewN (cd s k b)) := by
  obtain ⟨u, hs'⟩ := Option.isSome_iff_exists.1 hs
  have h1 := run_fconv (P := P) w s k a
  have h2 := run_fconv (P := P) (w.drewN (cd s k a)) s k b
  cases u <;> simp [convert, run_underlying hs', run_underlying hd, Conv.complexToComplex, h1, h2]

/-! ### The quarters -/
def quart : Nat → Nat → Nat → Nat × Nat
  | 0, f, q => (f, q)
  | n + 1, f, q => if geqC f K025 then quart n (fo .sub .f64 f K025) (q + 1) else (f, q)
def top : Nat → Nat
  | 0 => K1
  | 1 => 4604930618986332160
  | 2 => K05
  | 3 => K025
  | _ => 0
def InQ (j f : Nat) : Prop := fin .f64 f = true ∧ 0 ≤ wv .f64 f ∧ wv .f64 f ≤ rv FloatKind.f64.format (top j)
theorem top_inf (j : Nat) : top j ≤ FloatKind.f64.format.infRung := by
  unfold top
  split <;> decide +kernel
theorem K025_fin : fin .f64 K025 = true := by decide +kernel
theorem wv_K025 : wv .f64 K025 = rv FloatKind.f64.format K025 := wv_pos_word (by decide +kernel)
theorem top_step {j : Nat} (h : j < 4) : rv FloatKind.f64.format (top j) - rv FloatKind.f64.format K025 ≤ rv FloatKind.f64.format (top (j + 1)) := by
  have hh : j = 0 ∨ j = 1 ∨ j = 2 ∨ j = 3 := by omega
  rcases hh with rfl | rfl | rfl | rfl <;> decide +kernel
theorem top_four : rv FloatKind.f64.format (top 4) < rv FloatKind.f64.format K025 := by decide +kernel
theorem InQ.lt {j f : Nat} (h : InQ j f) (hj : j ≤ 4) (hg : geqC f K025 = true) : j < 4 := by
  rw [geq_fin h.1 K025_fin, wv_K025] at hg
  have hg' := of_decide_eq_true hg
  by_cases h4 : j = 4
  · subst h4
    have h1 := h.2.2
    have h2 := top_four
    grind
  · omega
theorem InQ.step {j f : Nat} (h : InQ j f) (hj : j < 4) (hg : geqC f K025 = true) : InQ (j + 1) (fo .sub .f64 f K025) := by
  rw [geq_fin h.1 K025_fin, wv_K025] at hg
  have hg' := of_decide_eq_true hg
  obtain ⟨s, m, e, h1, h2⟩ := sub_spec (k := .f64) h.1 K025_fin
  rw [wv_K025] at h2
  have h3 := h.2.2
  have h4 := top_step hj
  have hle := round_le (s := s) (m := m) (e := e) (top_inf (j + 1)) (by rw [h2]; grind)
  have hge := round_nonneg (s := s) (m := m) (e := e) (by rw [h2]; grind)
  have hbd : Bd (fo .sub .f64 f K025) 1 := by
    have hb : Bd f 0 := by
      refine Bd_of_val h.1 (by omega) (by omega) ?_ ?_
      · have : rv FloatKind.f64.format (top j) ≤ rv FloatKind.f64.format K1 := by
          have hh : j = 0 ∨ j = 1 ∨ j = 2 ∨ j = 3 := by omega
          rcases hh with rfl | rfl | rfl | rfl <;> decide +kernel
        rw [rv_one] at this
        rw [vl_one_zero]
        grind
      · rw [vl_one_zero]; have := h.2.1; grind
    exact Bd_sub (j := 0) hb (by unfold Bd; decide +kernel) (by omega) (by omega)
  refine ⟨hbd.fin (by omega), ?_, ?_⟩ <;> rw [fo_some h1]
  · exact hge
  · exact hle
theorem InQ.bd {j f : Nat} (h : InQ j f) (hj : j ≤ 4) : Bd f 0 := by
  refine Bd_of_val h.1 (by omega) (by omega) ?_ ?_
  · have : rv FloatKind.f64.format (top j) ≤ rv FloatKind.f64.format K1 := by
      have hh : j = 0 ∨ j = 1 ∨ j = 2 ∨ j = 3 ∨ j = 4 := by omega
      rcases hh with rfl | rfl | rfl | rfl | rfl <;> decide +kernel
    rw [rv_one] at this
    rw [vl_one_zero]
    have := h.2.2
    grind
  · rw [vl_one_zero]; have := h.2.1; grind
theorem InQ_start {t : Nat} (h : Bd t 52) : InQ 0 (fracC t) := by
  obtain ⟨a, b, c⟩ := frac_bd h
  exact ⟨a, b, by show wv .f64 (fracC t) ≤ rv FloatKind.f64.format K1; rw [rv_one]; exact c⟩
theorem sub_fin {x y : Nat} (hx : fin .f64 x = true) (hy : fin .f64 y = true) : (∀ W : World, fv .sub .f64 x y W = fo .sub .f64 x y) ∧ fd .sub .f64 x y = 0 := by
  obtain ⟨s, m, e, h1, h2⟩ := sub_spec (k := .f64) hx hy
  exact ⟨fun W => by unfold fv fo; rw [h1]; rfl, by unfold fd; rw [h1]; rfl⟩
theorem add_fin {x y : Nat} (hx : fin .f64 x = true) (hy : fin .f64 y = true) : (∀ W : World, fv .add .f64 x y W = fo .add .f64 x y) ∧ fd .add .f64 x y = 0 := by
  obtain ⟨s, m, e, h1, h2⟩ := add_spec (k := .f64) hx hy
  exact ⟨fun W => by unfold fv fo; rw [h1]; rfl, by unfold fd; rw [h1]; rfl⟩
theorem cn_fin {x : Nat} (h : fin .f64 x = true) : cn .f64 x = x := cn_of_not (isN_of_fin h)
theorem near_52 {y : Nat} (h : Bd y 51) : geqC y K52 = false ∧ leqC y N52 = false := by
  have hf := h.fin (by omega)
  have hr := range_52 hf
  have : ¬ K52 ≤ rg .f64 y := by
    have h1 : rg .f64 y ≤ RP 51 := h
    have h2 : RP 51 < K52 := by decide +kernel
    omega
  rw [decide_eq_false this] at hr
  cases h1 : geqC y K52 <;> cases h2 : leqC y N52 <;> simp_all
theorem wrap_four {j : Nat} (h : j < 4) : IntKind.i64.wrap ((j : Int) + 1) = ((j + 1 : Nat) : Int) := by
  have hh : j = 0 ∨ j = 1 ∨ j = 2 ∨ j = 3 := by omega
  rcases hh with rfl | rfl | rfl | rfl <;> rfl
theorem quart_zero (f q : Nat) : quart 0 f q = (f, q) := rfl
theorem quart_no {n f q : Nat} (h : geqC f K025 = false) : quart n f q = (f, q) := by
  cases n with
  | zero => rfl
  | succ n => unfold quart; rw [h]; rfl
theorem quart_yes {j f : Nat} (hj : j < 4) (h : geqC f K025 = true) : quart (4 - j) f j = quart (4 - (j + 1)) (fo .sub .f64 f K025) (j + 1) := by
  obtain ⟨n, hn⟩ : ∃ n, 4 - j = n + 1 := ⟨4 - j - 1, by omega⟩
  rw [hn, show 4 - (j + 1) = n by omega]
  conv => lhs; unfold quart
  rw [h]
  rfl

/-! ### What PhasorOf gives -/
def pRe (q c s : Nat) : Nat := if q = 1 then fo .sub .f64 0 s else if q = 2 then fo .sub .f64 0 c else if q = 3 then s else c
def pIm (q c s : Nat) : Nat := if q = 1 then c else if q = 2 then fo .sub .f64 0 s else if q = 3 then fo .sub .f64 0 c else s
def phQ (t : Nat) : Nat × Nat := quart 4 (fracC t) 0
def phC (t : Nat) : Nat := sinC (fracC (fo .sub .f64 K025 (phQ t).1))
def phS (t : Nat) : Nat := sinC (fracC (phQ t).1)
def phR (t : Nat) : Nat := if fin .f64 t then (if K52 ≤ rg .f64 t then 1065353216 else co .f64 .f32 (pRe (phQ t).2 (phC t) (phS t))) else qn .f32
def phI (t : Nat) : Nat := if fin .f64 t then (if K52 ≤ rg .f64 t then 0 else co .f64 .f32 (pIm (phQ t).2 (phC t) (phS t))) else qn .f32
theorem cn0 : cn .f64 0 = 0 := by decide +kernel
theorem neg_bd {s : Nat} (h : Bd s 110) : Bd (fo .sub .f64 0 s) 127 := (Bd_sub (j := 110) (by unfold Bd; decide +kernel) h (by omega) (by omega)).mono (by omega)
theorem narrow_of {b c : Nat} (W : World) (h : cn .f64 b = c) (hc : Bd c 110) : cn .f32 (cv .f64 .f32 b W) = co .f64 .f32 c := narrow_bd W h (hc.mono (by omega))
theorem narrow_neg {b c : Nat} (W W' : World) (h : cn .f64 b = c) (hc : Bd c 110) : cn .f32 (cv .f64 .f32 (fv .sub .f64 0 b W') W) = co .f64 .f32 (fo .sub .f64 0 c) :=
  narrow_bd W (by rw [cn_fv, h, cn0]) (neg_bd hc)
theorem phR_exit {t j f : Nat} (hf : fin .f64 t = true) (hk : ¬ K52 ≤ rg .f64 t) (hq : quart (4 - j) f j = quart 4 (fracC t) 0) (hg : geqC f K025 = false) :
    phR t = co .f64 .f32 (pRe j (sinC (fracC (fo .sub .f64 K025 f))) (sinC (fracC f))) ∧ phI t = co .f64 .f32 (pIm j (sinC (fracC (fo .sub .f64 K025 f))) (sinC (fracC f))) := by
  rw [quart_no hg] at hq
  unfold phR phI phC phS phQ
  rw [hf, if_neg hk, if_neg hk, ← hq]
  exact ⟨rfl, rfl⟩

set_option maxHeartbeats 4000000 in
theorem specPh_nan (y : Nat) (w : World) (h : fin .f64 y = false) : Calls Try.prog 38 #[.float .f64 y] w fun e w' => ∃ a b n, e = .returned (.complex .f32 a b) ∧ cn .f32 a = phR y ∧ cn .f32 b = phI y ∧ w' = w.drewN n := by
  have hR : phR y = qn .f32 := by unfold phR; rw [h]; rfl
  have hI : phI y = qn .f32 := by unfold phI; rw [h]; rfl
  have s0 : ∀ u : World, (FloatKind.f64.format.order (fv .sub .f64 y y u) 0 != some .eq) = true := by
    intro u
    have := sub_self .f64 y u
    rw [h] at this
    simpa using this
  have HR := Lib.hid hR
  have HI := Lib.hid hI
  clear hR hI h
  go_enter Try.func38, Try.ntmps38
  go_wp2_with (go_at_call 52; go_in)
  go_ret
  exact ⟨_, _, _, rfl, by rw [HR.out]; decide +kernel, by rw [HI.out]; decide +kernel, rfl⟩
set_option maxHeartbeats 4000000 in
theorem specPh_big (y : Nat) (w : World) (hfy : fin .f64 y = true) (hk : K52 ≤ rg .f64 y) : Calls Try.prog 38 #[.float .f64 y] w fun e w' => ∃ a b n, e = .returned (.complex .f32 a b) ∧ cn .f32 a = phR y ∧ cn .f32 b = phI y ∧ w' = w.drewN n := by
  have hR : phR y = 1065353216 := by unfold phR; rw [hfy, if_pos rfl, if_pos hk]
  have hI : phI y = 0 := by unfold phI; rw [hfy, if_pos rfl, if_pos hk]
  have s0 := neq_self hfy
  have hb : (geqC y K52 || leqC y N52) = true := by rw [range_52 hfy]; exact decide_eq_true hk
  have HR := Lib.hid hR
  have HI := Lib.hid hI
  clear hR hI hk hfy
  cases hg : geqC y K52
  · have s1 : (FloatKind.f64.format.order y 4841369599423283200 == some .gt || FloatKind.f64.format.order y 4841369599423283200 == some .eq) = false := hg
    have s2 : (FloatKind.f64.format.order y 14064741636278059008 == some .lt || FloatKind.f64.format.order y 14064741636278059008 == some .eq) = true := by rw [hg, Bool.false_or] at hb; exact hb
    clear hg hb
    go_enter Try.func38, Try.ntmps38
    go_wp2
    go_ret
    exact ⟨_, _, _, rfl, by rw [HR.out]; decide +kernel, by rw [HI.out]; decide +kernel, rfl⟩
  · have s1 : (FloatKind.f64.format.order y 4841369599423283200 == some .gt || FloatKind.f64.format.order y 4841369599423283200 == some .eq) = true := hg
    clear hg hb
    go_enter Try.func38, Try.ntmps38
    go_wp2
    go_ret
    exact ⟨_, _, _, rfl, by rw [HR.out]; decide +kernel, by rw [HI.out]; decide +kernel, rfl⟩
set_option maxHeartbeats 4000000 in
theorem specPh_mid (y : Nat) (w : World) (hfy : fin .f64 y = true) (hk : ¬ K52 ≤ rg .f64 y) : Calls Try.prog 38 #[.float .f64 y] w fun e w' => ∃ a b n, e = .returned (.complex .f32 a b) ∧ cn .f32 a = phR y ∧ cn .f32 b = phI y ∧ w' = w.drewN n := by
  have hbd : Bd y 52 := by
    unfold Bd
    rw [show RP 52 = K52 by decide +kernel]
    omega
  have hb : (geqC y K52 || leqC y N52) = false := by rw [range_52 hfy]; exact decide_eq_false hk
  have s0 := neq_self hfy
  have s1 : (FloatKind.f64.format.order y 4841369599423283200 == some .gt || FloatKind.f64.format.order y 4841369599423283200 == some .eq) = false := by
    have : geqC y K52 = false := by cases h : geqC y K52 <;> simp_all
    exact this
  have s2 : (FloatKind.f64.format.order y 14064741636278059008 == some .lt || FloatKind.f64.format.order y 14064741636278059008 == some .eq) = false := by
    have : leqC y N52 = false := by cases h : leqC y N52 <;> simp_all
    exact this
  have hconv := fun u : World => run_convert_float_int (P := Try.prog) u 25 2 .f64 .i64 y (wholeI y) (by rw [Try.underlying25]; rfl) Try.underlying2 (floatToInt_whole hbd)
  have hfr : fracC y = if lssC (fo .sub .f64 y (floatOfInt .f64 (wholeI y))) 0 then fo .add .f64 (fo .sub .f64 y (floatOfInt .f64 (wholeI y))) K1 else fo .sub .f64 y (floatOfInt .f64 (wholeI y)) := rfl
  have hN := ((foi_val hbd).2).fin (by omega)
  have hst := InQ_start hbd
  obtain ⟨f1v, f1d⟩ := sub_fin hfy hN
  have hfD : fin .f64 (fo .sub .f64 y (floatOfInt .f64 (wholeI y))) = true := (Bd_sub (j := 52) hbd (foi_val hbd).2 (by omega) (by omega)).fin (by omega)
  have hz := World.drewN_zero
  clear hb
  generalize wholeI y = N at *
  generalize hDD : fo .sub .f64 y (floatOfInt .f64 N) = D at *
  cases hD : lssC D 0
  · have t0 : (FloatKind.f64.format.order D 0 == some .lt) = false := hD
    have hE : fracC y = D := by rw [hfr, hD]; rfl
    rw [hE] at hst
    have hQ0 : quart (4 - 0) D 0 = quart 4 (fracC y) 0 := by rw [hE]
    clear hDD hD hfr
    go_enter Try.func38, Try.ntmps38
    go_wp2_with fail
    go_loopw [3, 4] (fun p i wr => ∃ (j : Nat) (pb : Nat), j ≤ 4 ∧ i = .int .i64 j ∧ p = .float .f64 pb ∧ InQ j pb ∧ quart (4 - j) pb j = quart 4 (fracC y) 0 ∧ ∃ n, wr = w.drewN n) (fun _ i _ => (4 - intOf i).toNat)
    case atStart => exact ⟨0, _, by omega, rfl, rfl, hst, hQ0, _, rfl⟩
    case round =>
      obtain ⟨j, pb, hj, rfl, rfl, hin, hq, n2, hwr⟩ := hrel
      have HW := Lib.hid hwr
      clear hwr
      obtain ⟨sv0, sd0⟩ := sub_fin hin.1 K025_fin
      have hz := World.drewN_zero
      cases hg : geqC pb K025
      · have t1 : (FloatKind.f64.format.order pb 4598175219545276416 == some .gt || FloatKind.f64.format.order pb 4598175219545276416 == some .eq) = false := hg
        obtain ⟨hR, hI⟩ := phR_exit hfy hk hq hg
        have HR := Lib.hid hR
        have HI := Lib.hid hI
        obtain ⟨sv1, sd1⟩ := sub_fin K025_fin hin.1
        have hb0 : Bd pb 0 := hin.bd hj
        have hb1 : Bd (fo .sub .f64 K025 pb) 1 := Bd_sub (j := 0) (by unfold Bd; decide +kernel) hb0 (by omega) (by omega)
        have hS : Bd (sinC (fracC pb)) 110 := sinC_bd (frac_Bd (hb0.mono (by omega)))
        have hC : Bd (sinC (fracC (fo .sub .f64 K025 pb))) 110 := sinC_bd (frac_Bd (hb1.mono (by omega)))
        change ∀ W : World, fv .sub .f64 4598175219545276416 pb W = fo .sub .f64 K025 pb at sv1
        change fd .sub .f64 4598175219545276416 pb = 0 at sd1
        clear hR hI hq hg hin sv0 sd0
        generalize fo .sub .f64 K025 pb = yb at *
        have hcases : j = 0 ∨ j = 1 ∨ j = 2 ∨ j = 3 ∨ j = 4 := by omega
        clear hj
        rcases hcases with rfl | rfl | rfl | rfl | rfl
        · go_wp2_with (first | (go_at_call 44; refine (sineWide_any _ _ (hb1.mono (by omega)) (near_52 (hb1.mono (by omega))).1 (near_52 (hb1.mono (by omega))).2).mono ?_; rintro e w' ⟨cb, n3, rfl, hcb, rfl⟩; have HC := Lib.hid hcb; clear hcb hb1) | (go_at_call 44; refine (sineWide_any _ _ (hb0.mono (by omega)) (near_52 (hb0.mono (by omega))).1 (near_52 (hb0.mono (by omega))).2).mono ?_; rintro e w' ⟨sb, n4, rfl, hsb, rfl⟩; have HS := Lib.hid hsb; clear hsb hb0) | (go_at_call 43; go_in))
          go_ret
          refine ⟨_, _, _, rfl, ?_, ?_, by rw [HW.out]; simp only [World.drewN_drewN]; rfl⟩
          · rw [HR.out]; exact narrow_of _ HC.out hC
          · rw [HI.out]; exact narrow_of _ HS.out hS
        · go_wp2_with (first | (go_at_call 44; refine (sineWide_any _ _ (hb1.mono (by omega)) (near_52 (hb1.mono (by omega))).1 (near_52 (hb1.mono (by omega))).2).mono ?_; rintro e w' ⟨cb, n3, rfl, hcb, rfl⟩; have HC := Lib.hid hcb; clear hcb hb1) | (go_at_call 44; refine (sineWide_any _ _ (hb0.mono (by omega)) (near_52 (hb0.mono (by omega))).1 (near_52 (hb0.mono (by omega))).2).mono ?_; rintro e w' ⟨sb, n4, rfl, hsb, rfl⟩; have HS := Lib.hid hsb; clear hsb hb0) | (go_at_call 43; go_in))
          go_ret
          refine ⟨_, _, _, rfl, ?_, ?_, by rw [HW.out]; simp only [World.drewN_drewN]; rfl⟩
          · rw [HR.out]; exact narrow_neg _ _ HS.out hS
          · rw [HI.out]; exact narrow_of _ HC.out hC
        · go_wp2_with (first | (go_at_call 44; refine (sineWide_any _ _ (hb1.mono (by omega)) (near_52 (hb1.mono (by omega))).1 (near_52 (hb1.mono (by omega))).2).mono ?_; rintro e w' ⟨cb, n3, rfl, hcb, rfl⟩; have HC := Lib.hid hcb; clear hcb hb1) | (go_at_call 44; refine (sineWide_any _ _ (hb0.mono (by omega)) (near_52 (hb0.mono (by omega))).1 (near_52 (hb0.mono (by omega))).2).mono ?_; rintro e w' ⟨sb, n4, rfl, hsb, rfl⟩; have HS := Lib.hid hsb; clear hsb hb0) | (go_at_call 43; go_in))
          go_ret
          refine ⟨_, _, _, rfl, ?_, ?_, by rw [HW.out]; simp only [World.drewN_drewN]; rfl⟩
          · rw [HR.out]; exact narrow_neg _ _ HC.out hC
          · rw [HI.out]; exact narrow_neg _ _ HS.out hS
        · go_wp2_with (first | (go_at_call 44; refine (sineWide_any _ _ (hb1.mono (by omega)) (near_52 (hb1.mono (by omega))).1 (near_52 (hb1.mono (by omega))).2).mono ?_; rintro e w' ⟨cb, n3, rfl, hcb, rfl⟩; have HC := Lib.hid hcb; clear hcb hb1) | (go_at_call 44; refine (sineWide_any _ _ (hb0.mono (by omega)) (near_52 (hb0.mono (by omega))).1 (near_52 (hb0.mono (by omega))).2).mono ?_; rintro e w' ⟨sb, n4, rfl, hsb, rfl⟩; have HS := Lib.hid hsb; clear hsb hb0) | (go_at_call 43; go_in))
          go_ret
          refine ⟨_, _, _, rfl, ?_, ?_, by rw [HW.out]; simp only [World.drewN_drewN]; rfl⟩
          · rw [HR.out]; exact narrow_of _ HS.out hS
          · rw [HI.out]; exact narrow_neg _ _ HC.out hC
        · go_wp2_with (first | (go_at_call 44; refine (sineWide_any _ _ (hb1.mono (by omega)) (near_52 (hb1.mono (by omega))).1 (near_52 (hb1.mono (by omega))).2).mono ?_; rintro e w' ⟨cb, n3, rfl, hcb, rfl⟩; have HC := Lib.hid hcb; clear hcb hb1) | (go_at_call 44; refine (sineWide_any _ _ (hb0.mono (by omega)) (near_52 (hb0.mono (by omega))).1 (near_52 (hb0.mono (by omega))).2).mono ?_; rintro e w' ⟨sb, n4, rfl, hsb, rfl⟩; have HS := Lib.hid hsb; clear hsb hb0) | (go_at_call 43; go_in))
          go_ret
          refine ⟨_, _, _, rfl, ?_, ?_, by rw [HW.out]; simp only [World.drewN_drewN]; rfl⟩
          · rw [HR.out]; exact narrow_of _ HC.out hC
          · rw [HI.out]; exact narrow_of _ HS.out hS
      · have t1 : (FloatKind.f64.format.order pb 4598175219545276416 == some .gt || FloatKind.f64.format.order pb 4598175219545276416 == some .eq) = true := hg
        have hlt := hin.lt hj hg
        have hin2 := hin.step hlt hg
        have hq2 := (quart_yes hlt hg).symm.trans hq
        have w1 := wrap_four hlt
        change ∀ W : World, fv .sub .f64 pb 4598175219545276416 W = fo .sub .f64 pb K025 at sv0
        change fd .sub .f64 pb 4598175219545276416 = 0 at sd0
        clear hg hin hq
        generalize fo .sub .f64 pb K025 = yb at *
        go_wp2
        go_roundw
        case rel => exact ⟨j + 1, _, by omega, by go_num, rfl, hin2, hq2, by rw [HW.out]; exact ⟨_, rfl⟩⟩
        case measure => simp [intOf]; omega
  · have t0 : (FloatKind.f64.format.order D 0 == some .lt) = true := hD
    have hE : fracC y = fo .add .f64 D K1 := by rw [hfr, hD]; rfl
    rw [hE] at hst
    have hQ0 : quart (4 - 0) (fo .add .f64 D K1) 0 = quart 4 (fracC y) 0 := by rw [hE]
    obtain ⟨a1v, a1d⟩ := add_fin hfD (show fin .f64 K1 = true by decide +kernel)
    change ∀ W : World, fv .add .f64 D 4607182418800017408 W = fo .add .f64 D K1 at a1v
    change fd .add .f64 D 4607182418800017408 = 0 at a1d
    clear hDD hD hfr
    generalize fo .add .f64 D K1 = D2 at *
    go_enter Try.func38, Try.ntmps38
    go_wp2_with fail
    go_loopw [3, 4] (fun p i wr => ∃ (j : Nat) (pb : Nat), j ≤ 4 ∧ i = .int .i64 j ∧ p = .float .f64 pb ∧ InQ j pb ∧ quart (4 - j) pb j = quart 4 (fracC y) 0 ∧ ∃ n, wr = w.drewN n) (fun _ i _ => (4 - intOf i).toNat)
    case atStart => exact ⟨0, _, by omega, rfl, rfl, hst, hQ0, _, rfl⟩
    case round =>
      obtain ⟨j, pb, hj, rfl, rfl, hin, hq, n2, hwr⟩ := hrel
      have HW := Lib.hid hwr
      clear hwr
      obtain ⟨sv0, sd0⟩ := sub_fin hin.1 K025_fin
      have hz := World.drewN_zero
      cases hg : geqC pb K025
      · have t1 : (FloatKind.f64.format.order pb 4598175219545276416 == some .gt || FloatKind.f64.format.order pb 4598175219545276416 == some .eq) = false := hg
        obtain ⟨hR, hI⟩ := phR_exit hfy hk hq hg
        have HR := Lib.hid hR
        have HI := Lib.hid hI
        obtain ⟨sv1, sd1⟩ := sub_fin K025_fin hin.1
        have hb0 : Bd pb 0 := hin.bd hj
        have hb1 : Bd (fo .sub .f64 K025 pb) 1 := Bd_sub (j := 0) (by unfold Bd; decide +kernel) hb0 (by omega) (by omega)
        have hS : Bd (sinC (fracC pb)) 110 := sinC_bd (frac_Bd (hb0.mono (by omega)))
        have hC : Bd (sinC (fracC (fo .sub .f64 K025 pb))) 110 := sinC_bd (frac_Bd (hb1.mono (by omega)))
        change ∀ W : World, fv .sub .f64 4598175219545276416 pb W = fo .sub .f64 K025 pb at sv1
        change fd .sub .f64 4598175219545276416 pb = 0 at sd1
        clear hR hI hq hg hin sv0 sd0
        generalize fo .sub .f64 K025 pb = yb at *
        have hcases : j = 0 ∨ j = 1 ∨ j = 2 ∨ j = 3 ∨ j = 4 := by omega
        clear hj
        rcases hcases with rfl | rfl | rfl | rfl | rfl
        · go_wp2_with (first | (go_at_call 44; refine (sineWide_any _ _ (hb1.mono (by omega)) (near_52 (hb1.mono (by omega))).1 (near_52 (hb1.mono (by omega))).2).mono ?_; rintro e w' ⟨cb, n3, rfl, hcb, rfl⟩; have HC := Lib.hid hcb; clear hcb hb1) | (go_at_call 44; refine (sineWide_any _ _ (hb0.mono (by omega)) (near_52 (hb0.mono (by omega))).1 (near_52 (hb0.mono (by omega))).2).mono ?_; rintro e w' ⟨sb, n4, rfl, hsb, rfl⟩; have HS := Lib.hid hsb; clear hsb hb0) | (go_at_call 43; go_in))
          go_ret
          refine ⟨_, _, _, rfl, ?_, ?_, by rw [HW.out]; simp only [World.drewN_drewN]; rfl⟩
          · rw [HR.out]; exact narrow_of _ HC.out hC
          · rw [HI.out]; exact narrow_of _ HS.out hS
        · go_wp2_with (first | (go_at_call 44; refine (sineWide_any _ _ (hb1.mono (by omega)) (near_52 (hb1.mono (by omega))).1 (near_52 (hb1.mono (by omega))).2).mono ?_; rintro e w' ⟨cb, n3, rfl, hcb, rfl⟩; have HC := Lib.hid hcb; clear hcb hb1) | (go_at_call 44; refine (sineWide_any _ _ (hb0.mono (by omega)) (near_52 (hb0.mono (by omega))).1 (near_52 (hb0.mono (by omega))).2).mono ?_; rintro e w' ⟨sb, n4, rfl, hsb, rfl⟩; have HS := Lib.hid hsb; clear hsb hb0) | (go_at_call 43; go_in))
          go_ret
          refine ⟨_, _, _, rfl, ?_, ?_, by rw [HW.out]; simp only [World.drewN_drewN]; rfl⟩
          · rw [HR.out]; exact narrow_neg _ _ HS.out hS
          · rw [HI.out]; exact narrow_of _ HC.out hC
        · go_wp2_with (first | (go_at_call 44; refine (sineWide_any _ _ (hb1.mono (by omega)) (near_52 (hb1.mono (by omega))).1 (near_52 (hb1.mono (by omega))).2).mono ?_; rintro e w' ⟨cb, n3, rfl, hcb, rfl⟩; have HC := Lib.hid hcb; clear hcb hb1) | (go_at_call 44; refine (sineWide_any _ _ (hb0.mono (by omega)) (near_52 (hb0.mono (by omega))).1 (near_52 (hb0.mono (by omega))).2).mono ?_; rintro e w' ⟨sb, n4, rfl, hsb, rfl⟩; have HS := Lib.hid hsb; clear hsb hb0) | (go_at_call 43; go_in))
          go_ret
          refine ⟨_, _, _, rfl, ?_, ?_, by rw [HW.out]; simp only [World.drewN_drewN]; rfl⟩
          · rw [HR.out]; exact narrow_neg _ _ HC.out hC
          · rw [HI.out]; exact narrow_neg _ _ HS.out hS
        · go_wp2_with (first | (go_at_call 44; refine (sineWide_any _ _ (hb1.mono (by omega)) (near_52 (hb1.mono (by omega))).1 (near_52 (hb1.mono (by omega))).2).mono ?_; rintro e w' ⟨cb, n3, rfl, hcb, rfl⟩; have HC := Lib.hid hcb; clear hcb hb1) | (go_at_call 44; refine (sineWide_any _ _ (hb0.mono (by omega)) (near_52 (hb0.mono (by omega))).1 (near_52 (hb0.mono (by omega))).2).mono ?_; rintro e w' ⟨sb, n4, rfl, hsb, rfl⟩; have HS := Lib.hid hsb; clear hsb hb0) | (go_at_call 43; go_in))
          go_ret
          refine ⟨_, _, _, rfl, ?_, ?_, by rw [HW.out]; simp only [World.drewN_drewN]; rfl⟩
          · rw [HR.out]; exact narrow_of _ HS.out hS
          · rw [HI.out]; exact narrow_neg _ _ HC.out hC
        · go_wp2_with (first | (go_at_call 44; refine (sineWide_any _ _ (hb1.mono (by omega)) (near_52 (hb1.mono (by omega))).1 (near_52 (hb1.mono (by omega))).2).mono ?_; rintro e w' ⟨cb, n3, rfl, hcb, rfl⟩; have HC := Lib.hid hcb; clear hcb hb1) | (go_at_call 44; refine (sineWide_any _ _ (hb0.mono (by omega)) (near_52 (hb0.mono (by omega))).1 (near_52 (hb0.mono (by omega))).2).mono ?_; rintro e w' ⟨sb, n4, rfl, hsb, rfl⟩; have HS := Lib.hid hsb; clear hsb hb0) | (go_at_call 43; go_in))
          go_ret
          refine ⟨_, _, _, rfl, ?_, ?_, by rw [HW.out]; simp only [World.drewN_drewN]; rfl⟩
          · rw [HR.out]; exact narrow_of _ HC.out hC
          · rw [HI.out]; exact narrow_of _ HS.out hS
      · have t1 : (FloatKind.f64.format.order pb 4598175219545276416 == some .gt || FloatKind.f64.format.order pb 4598175219545276416 == some .eq) = true := hg
        have hlt := hin.lt hj hg
        have hin2 := hin.step hlt hg
        have hq2 := (quart_yes hlt hg).symm.trans hq
        have w1 := wrap_four hlt
        change ∀ W : World, fv .sub .f64 pb 4598175219545276416 W = fo .sub .f64 pb K025 at sv0
        change fd .sub .f64 pb 4598175219545276416 = 0 at sd0
        clear hg hin hq
        generalize fo .sub .f64 pb K025 = yb at *
        go_wp2
        go_roundw
        case rel => exact ⟨j + 1, _, by omega, by go_num, rfl, hin2, hq2, by rw [HW.out]; exact ⟨_, rfl⟩⟩
        case measure => simp [intOf]; omega
set_option maxHeartbeats 4000000 in
theorem implPh_nan (y : Nat) (w : World) (h : fin .f64 y = false) : Calls Try.prog 16 #[.float .f64 y] w fun e w' => ∃ a b n, e = .returned (.complex .f32 a b) ∧ cn .f32 a = phR y ∧ cn .f32 b = phI y ∧ w' = w.drewN n := by
  have hR : phR y = qn .f32 := by unfold phR; rw [h]; rfl
  have hI : phI y = qn .f32 := by unfold phI; rw [h]; rfl
  have HR := Lib.hid hR
  have HI := Lib.hid hI
  clear hR hI
  go_enter Try.func16, Try.ntmps16
  go_wp2_with (first | (go_at_call 27; refine (isFinite_any _ _).mono ?_; rintro e w' ⟨rfl, n, rfl⟩) | (go_at_call 28; refine (NaN_any _).mono ?_; rintro e w' ⟨rfl, rfl⟩))
  go_ret
  exact ⟨_, _, _, rfl, by rw [HR.out]; exact narrow_nan _, by rw [HI.out]; exact narrow_nan _, rfl⟩
set_option maxHeartbeats 4000000 in
theorem implPh_big (y : Nat) (w : World) (hwy : (Lit.float .f64 y).wf = true) (hfy : fin .f64 y = true) (hk : K52 ≤ rg .f64 y) : Calls Try.prog 16 #[.float .f64 y] w fun e w' => ∃ a b n, e = .returned (.complex .f32 a b) ∧ cn .f32 a = phR y ∧ cn .f32 b = phI y ∧ w' = w.drewN n := by
  have hR : phR y = 1065353216 := by unfold phR; rw [hfy, if_pos rfl, if_pos hk]
  have hI : phI y = 0 := by unfold phI; rw [hfy, if_pos rfl, if_pos hk]
  have hb : (FloatKind.f64.format.order (rg .f64 y) 4841369599423283200 == some .gt || FloatKind.f64.format.order (rg .f64 y) 4841369599423283200 == some .eq) = true := by
    have : geqC (rg .f64 y) K52 = true := by rw [abs_52 hfy]; exact decide_eq_true hk
    exact this
  have HR := Lib.hid hR
  have HI := Lib.hid hI
  clear hR hI hk
  go_enter Try.func16, Try.ntmps16
  go_wp2_with (first | (go_at_call 27; refine (isFinite_any _ _).mono ?_; rintro e w' ⟨rfl, n, rfl⟩) | (go_at_call 29; refine (Abs_any _ _ hwy).mono ?_; rintro e w' ⟨rfl, rfl⟩))
  go_ret
  exact ⟨_, _, _, rfl, by rw [HR.out]; decide +kernel, by rw [HI.out]; decide +kernel, rfl⟩
set_option maxHeartbeats 4000000 in
theorem implPh_mid (y : Nat) (w : World) (hwy : (Lit.float .f64 y).wf = true) (hfy : fin .f64 y = true) (hk : ¬ K52 ≤ rg .f64 y) : Calls Try.prog 16 #[.float .f64 y] w fun e w' => ∃ a b n, e = .returned (.complex .f32 a b) ∧ cn .f32 a = phR y ∧ cn .f32 b = phI y ∧ w' = w.drewN n := by
  have hbd : Bd y 52 := by
    unfold Bd
    rw [show RP 52 = K52 by decide +kernel]
    omega
  have hb : (FloatKind.f64.format.order (rg .f64 y) 4841369599423283200 == some .gt || FloatKind.f64.format.order (rg .f64 y) 4841369599423283200 == some .eq) = false := by
    have : geqC (rg .f64 y) K52 = false := by rw [abs_52 hfy]; exact decide_eq_false hk
    exact this
  have hst := InQ_start hbd
  have hz := World.drewN_zero
  go_enter Try.func16, Try.ntmps16
  go_wp2_with (first | (go_at_call 27; refine (isFinite_any _ _).mono ?_; rintro e w' ⟨rfl, n, rfl⟩) | (go_at_call 29; refine (Abs_any _ _ hwy).mono ?_; rintro e w' ⟨rfl, rfl⟩))
  refine (fraction_any _ _ hbd).mono ?_
  rintro e w1 ⟨fb, n, rfl, hfb, rfl⟩
  obtain rfl : fb = fracC y := by
    have hn : isN .f64 fb = false := by rw [← isN_cn, hfb]; exact isN_of_fin hst.1
    rw [cn_of_not hn] at hfb
    exact hfb
  have hQ0 : quart (4 - 0) (fracC y) 0 = quart 4 (fracC y) 0 := rfl
  clear hfb hb
  generalize hff : fracC y = ff at hst hQ0 ⊢
  rw [← hff] at hQ0
  go_wp2_with fail
  go_loopw [4, 5] (fun p i wr => ∃ (j : Nat) (pb : Nat), j ≤ 4 ∧ i = .int .i64 j ∧ p = .float .f64 pb ∧ InQ j pb ∧ quart (4 - j) pb j = quart 4 (fracC y) 0 ∧ ∃ n, wr = w.drewN n) (fun _ i _ => (4 - intOf i).toNat)
  case atStart => exact ⟨0, _, by omega, rfl, rfl, hst, by rw [← hff], _, rfl⟩
  case round =>
    obtain ⟨j, pb, hj, rfl, rfl, hin, hq, n2, hwr⟩ := hrel
    have HW := Lib.hid hwr
    clear hwr
    obtain ⟨sv0, sd0⟩ := sub_fin hin.1 K025_fin
    have hz := World.drewN_zero
    cases hg : geqC pb K025
    · have t1 : (FloatKind.f64.format.order pb 4598175219545276416 == some .gt || FloatKind.f64.format.order pb 4598175219545276416 == some .eq) = false := hg
      obtain ⟨hR, hI⟩ := phR_exit hfy hk hq hg
      have HR := Lib.hid hR
      have HI := Lib.hid hI
      obtain ⟨sv1, sd1⟩ := sub_fin K025_fin hin.1
      have hb0 : Bd pb 0 := hin.bd hj
      have hb1 : Bd (fo .sub .f64 K025 pb) 1 := Bd_sub (j := 0) (by unfold Bd; decide +kernel) hb0 (by omega) (by omega)
      have hS : Bd (sinC (fracC pb)) 110 := sinC_bd (frac_Bd (hb0.mono (by omega)))
      have hC : Bd (sinC (fracC (fo .sub .f64 K025 pb))) 110 := sinC_bd (frac_Bd (hb1.mono (by omega)))
      change ∀ W : World, fv .sub .f64 4598175219545276416 pb W = fo .sub .f64 K025 pb at sv1
      change fd .sub .f64 4598175219545276416 pb = 0 at sd1
      clear hR hI hq hg hin sv0 sd0
      generalize fo .sub .f64 K025 pb = yb at *
      have hcases : j = 0 ∨ j = 1 ∨ j = 2 ∨ j = 3 ∨ j = 4 := by omega
      clear hj
      rcases hcases with rfl | rfl | rfl | rfl | rfl
      · go_wp2_with (first | (go_at_call 30; refine (sine_any _ _ (hb1.mono (by omega))).mono ?_; rintro e w' ⟨cb, n3, rfl, hcb, rfl⟩; have HC := Lib.hid hcb; clear hcb hb1) | (go_at_call 30; refine (sine_any _ _ (hb0.mono (by omega))).mono ?_; rintro e w' ⟨sb, n4, rfl, hsb, rfl⟩; have HS := Lib.hid hsb; clear hsb hb0))
        go_ret
        refine ⟨_, _, _, rfl, ?_, ?_, by rw [HW.out]; simp only [World.drewN_drewN]; rfl⟩
        · rw [HR.out]; exact narrow_of _ HC.out hC
        · rw [HI.out]; exact narrow_of _ HS.out hS
      · go_wp2_with (first | (go_at_call 30; refine (sine_any _ _ (hb1.mono (by omega))).mono ?_; rintro e w' ⟨cb, n3, rfl, hcb, rfl⟩; have HC := Lib.hid hcb; clear hcb hb1) | (go_at_call 30; refine (sine_any _ _ (hb0.mono (by omega))).mono ?_; rintro e w' ⟨sb, n4, rfl, hsb, rfl⟩; have HS := Lib.hid hsb; clear hsb hb0))
        go_ret
        refine ⟨_, _, _, rfl, ?_, ?_, by rw [HW.out]; simp only [World.drewN_drewN]; rfl⟩
        · rw [HR.out]; exact narrow_neg _ _ HS.out hS
        · rw [HI.out]; exact narrow_of _ HC.out hC
      · go_wp2_with (first | (go_at_call 30; refine (sine_any _ _ (hb1.mono (by omega))).mono ?_; rintro e w' ⟨cb, n3, rfl, hcb, rfl⟩; have HC := Lib.hid hcb; clear hcb hb1) | (go_at_call 30; refine (sine_any _ _ (hb0.mono (by omega))).mono ?_; rintro e w' ⟨sb, n4, rfl, hsb, rfl⟩; have HS := Lib.hid hsb; clear hsb hb0))
        go_ret
        refine ⟨_, _, _, rfl, ?_, ?_, by rw [HW.out]; simp only [World.drewN_drewN]; rfl⟩
        · rw [HR.out]; exact narrow_neg _ _ HC.out hC
        · rw [HI.out]; exact narrow_neg _ _ HS.out hS
      · go_wp2_with (first | (go_at_call 30; refine (sine_any _ _ (hb1.mono (by omega))).mono ?_; rintro e w' ⟨cb, n3, rfl, hcb, rfl⟩; have HC := Lib.hid hcb; clear hcb hb1) | (go_at_call 30; refine (sine_any _ _ (hb0.mono (by omega))).mono ?_; rintro e w' ⟨sb, n4, rfl, hsb, rfl⟩; have HS := Lib.hid hsb; clear hsb hb0))
        go_ret
        refine ⟨_, _, _, rfl, ?_, ?_, by rw [HW.out]; simp only [World.drewN_drewN]; rfl⟩
        · rw [HR.out]; exact narrow_of _ HS.out hS
        · rw [HI.out]; exact narrow_neg _ _ HC.out hC
      · go_wp2_with (first | (go_at_call 30; refine (sine_any _ _ (hb1.mono (by omega))).mono ?_; rintro e w' ⟨cb, n3, rfl, hcb, rfl⟩; have HC := Lib.hid hcb; clear hcb hb1) | (go_at_call 30; refine (sine_any _ _ (hb0.mono (by omega))).mono ?_; rintro e w' ⟨sb, n4, rfl, hsb, rfl⟩; have HS := Lib.hid hsb; clear hsb hb0))
        go_ret
        refine ⟨_, _, _, rfl, ?_, ?_, by rw [HW.out]; simp only [World.drewN_drewN]; rfl⟩
        · rw [HR.out]; exact narrow_of _ HC.out hC
        · rw [HI.out]; exact narrow_of _ HS.out hS
    · have t1 : (FloatKind.f64.format.order pb 4598175219545276416 == some .gt || FloatKind.f64.format.order pb 4598175219545276416 == some .eq) = true := hg
      have hlt := hin.lt hj hg
      have hin2 := hin.step hlt hg
      have hq2 := (quart_yes hlt hg).symm.trans hq
      have w1 := wrap_four hlt
      change ∀ W : World, fv .sub .f64 pb 4598175219545276416 W = fo .sub .f64 pb K025 at sv0
      change fd .sub .f64 pb 4598175219545276416 = 0 at sd0
      clear hg hin hq
      generalize fo .sub .f64 pb K025 = yb at *
      go_wp2
      go_roundw
      case rel => exact ⟨j + 1, _, by omega, by go_num, rfl, hin2, hq2, by rw [HW.out]; exact ⟨_, rfl⟩⟩
      case measure => simp [intOf]; omega
set_option maxHeartbeats 400000 in
theorem sameComplex_any (a b c d : Nat) (w : World) (h : cn .f64 a = cn .f64 c) (h2 : cn .f64 b = cn .f64 d) :
    Calls Try.prog 17 #[.complex .f64 a b, .complex .f64 c d] w fun e w' => e = .returned (.bool true) ∧ ∃ n, w' = w.drewN n := by
  go_enter Try.func17, Try.ntmps17
  go_wp2_with fail
  refine (sameFloat_any _ _ _ h).mono ?_
  rintro e w' ⟨rfl, n, rfl⟩
  go_wp2_with fail
  refine (sameFloat_any _ _ _ h2).mono ?_
  rintro e w' ⟨rfl, n2, rfl⟩
  go_wp2
  go_ret
  exact ⟨rfl, _, rfl⟩
theorem implPh_any (y : Nat) (w : World) (hwy : (Lit.float .f64 y).wf = true) : Calls Try.prog 16 #[.float .f64 y] w fun e w' => ∃ a b n, e = .returned (.complex .f32 a b) ∧ cn .f32 a = phR y ∧ cn .f32 b = phI y ∧ w' = w.drewN n := by
  cases hf : fin .f64 y
  · exact implPh_nan y w hf
  · by_cases hk : K52 ≤ rg .f64 y
    · exact implPh_big y w hwy hf hk
    · exact implPh_mid y w hwy hf hk
theorem specPh_in (y : Nat) (w : World) : Calls Try.prog 38 #[.float .f64 y] w fun e w' => ∃ a b n, e = .returned (.complex .f32 a b) ∧ cn .f32 a = phR y ∧ cn .f32 b = phI y ∧ w' = w.drewN n := by
  cases hf : fin .f64 y
  · exact specPh_nan y w hf
  · by_cases hk : K52 ≤ rg .f64 y
    · exact specPh_big y w hf hk
    · exact specPh_mid y w hf hk
set_option maxHeartbeats 400000 in
theorem specPh_any (y : Nat) (w : World) : Calls Try.prog 15 #[.float .f64 y] w fun e w' => ∃ a b n, e = .returned (.complex .f32 a b) ∧ cn .f32 a = phR y ∧ cn .f32 b = phI y ∧ w' = w.drewN n := by
  go_enter Try.func15, Try.ntmps15
  go_wp2_with fail
  refine (specPh_in _ _).mono ?_
  rintro e w1 ⟨a, b, n, rfl, h1, h2, rfl⟩
  have H1 := Lib.hid h1
  have H2 := Lib.hid h2
  clear h1 h2
  go_wp2
  go_ret
  exact ⟨_, _, _, rfl, H1.out, H2.out, rfl⟩
set_option maxHeartbeats 400000 in
theorem fnExactPhasorOf_walk (y : Nat) (hy : (Lit.float .f64 y).wf = true) (w : World) :
    Calls Try.prog 6 #[.float .f64 y] w fun e w' => e = .returned (.bool true) ∧ Below w.heap.size w w' := by
  go_enter Try.func6, Try.ntmps6
  go_wp2_with fail
  refine (specPh_any _ _).mono ?_
  rintro e w1 ⟨a, b, n1, rfl, h1, h2, rfl⟩
  have H1 := Lib.hid h1
  have H2 := Lib.hid h2
  clear h1 h2
  go_wp2_with fail
  refine (implPh_any _ _ hy).mono ?_
  rintro e w1 ⟨c, d, n2, rfl, h3, h4, rfl⟩
  have H3 := Lib.hid h3
  have H4 := Lib.hid h4
  clear h3 h4
  go_wp2_with fail
  refine (sameComplex_any _ _ _ _ _ (by rw [cn_widen, cn_widen, H1.out, H3.out]) (by rw [cn_widen, cn_widen, H2.out, H4.out])).mono ?_
  rintro e w1 ⟨rfl, n3, rfl⟩
  go_wp2
  go_ret
  exact ⟨rfl, below_drewN (Below.refl _ _) _⟩
end Go.Proofs.Ytokbpcfgeklliaa
