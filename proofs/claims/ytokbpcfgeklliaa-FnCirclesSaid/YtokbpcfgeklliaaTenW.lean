/-
  TenthsOf, both sides walked; the law.
-/
import Derived.Test.YtokbpcfgeklliaaTen2
namespace Go.Proofs.Ytokbpcfgeklliaa
open Go.RowKit
open Ieee
set_option linter.unusedVariables false
set_option linter.unusedSimpArgs false

theorem cn0t : cn .f64 0 = 0 := by decide +kernel
theorem cnK2 : cn .f64 4611686018427387904 = K2 := by decide +kernel
theorem cnKL2 : cn .f64 4604418534313441775 = KL2 := by decide +kernel
theorem cnKT : cn .f64 4631308968768463603 = KT := by decide +kernel
theorem quo_two {f : Nat} (hf : fin .f64 f = true) : (∀ W : World, fv .quo .f64 f 4611686018427387904 W = fo .quo .f64 f K2) ∧ fd .quo .f64 f 4611686018427387904 = 0 := by
  have hn : mg FloatKind.f64.format (rg .f64 K2) ≠ 0 := by rw [K2_facts.2.2.1]; decide
  obtain ⟨m', e', hq⟩ : ∃ m' e', (Datum.number (sg .f64 f) (mg FloatKind.f64.format (rg .f64 f)) (pl FloatKind.f64.format (rg .f64 f))).quotient (FloatKind.f64.format.fractionBits + 2) (.number (sg .f64 K2) (mg FloatKind.f64.format (rg .f64 K2)) (pl FloatKind.f64.format (rg .f64 K2))) = some (.number (sg .f64 f ^^ sg .f64 K2) m' e') := by
    simp only [Datum.quotient, if_neg hn]
    exact ⟨_, _, rfl⟩
  have hw := quo_word hf K2_facts.1 hq
  change floatBits .quo .f64 f 4611686018427387904 = _ at hw
  exact ⟨fun W => by unfold fv fo; rw [show K2 = 4611686018427387904 from rfl, hw]; rfl, by unfold fd; rw [hw]; rfl⟩
theorem mul_two {f : Nat} (hf : fin .f64 f = true) : (∀ W : World, fv .mul .f64 f 4611686018427387904 W = fo .mul .f64 f K2) ∧ fd .mul .f64 f 4611686018427387904 = 0 := by
  obtain ⟨m, e, hw, _⟩ := mul_spec (k := .f64) hf K2_facts.1
  change floatBits .mul .f64 f 4611686018427387904 = _ at hw
  exact ⟨fun W => by unfold fv fo; rw [show K2 = 4611686018427387904 from rfl, hw]; rfl, by unfold fd; rw [hw]; rfl⟩
theorem cn_fin' {x : Nat} (h : fin .f64 x = true) : cn .f64 x = x := cn_of_not (isN_of_fin h)
theorem wrap_up {j : Nat} (h : j < 128) : IntKind.i64.wrap ((j : Int) + 1) = ((j + 1 : Nat) : Int) := by
  rw [IntWalk.i64_in _ (by omega)]; omega
theorem wrap_dn {a j : Nat} (h : a ≤ 128) (hj : j < 149) : IntKind.i64.wrap ((a : Int) - (j : Int) - 1) = (a : Int) - ((j + 1 : Nat) : Int) := by
  rw [IntWalk.i64_in _ (by omega)]; omega
theorem wrap_25 {j : Nat} (h : j < 13) : IntKind.i64.wrap (25 - 2 * (j : Int) - 2) = 25 - 2 * ((j + 1 : Nat) : Int) := by
  rw [IntWalk.i64_in _ (by omega)]; omega

set_option maxHeartbeats 8000000 in
theorem logWide_any (x : Nat) (w0 : World) (hx : D1 0 x) (hN : isN .f64 x = false) (hl : (FloatKind.f64.format.order x 0 == some .lt) = false) (he : (FloatKind.f64.format.order x 0 == some .eq) = false) (hm : (FloatKind.f64.format.order x 9218868437227405311 == some .gt) = false) :
    Calls Try.prog 49 #[.float .f64 x] w0 fun e w' => ∃ r n, e = .returned (.float .f64 r) ∧ cn .f64 r = lgT (tenP x).1 (tenP x).2 ∧ w' = w0.drewN n := by
  have s0 : (FloatKind.f64.format.order x x != some .eq) = false := by rw [order_self, hN]; rfl
  have hz := World.drewN_zero
  clear hN
  go_enter Try.func49, Try.ntmps49
  go_wp2_with (go_at_call 57; go_in)
  go_loopw [0, 3] (fun p i wr => ∃ (j f : Nat), j ≤ 128 ∧ i = .int .i64 j ∧ p = .float .f64 f ∧ D1 j f ∧ dn (128 - j) f j = dn 128 x 0 ∧ ∃ n, wr = w0.drewN n) (fun _ i _ => (128 - intOf i).toNat)
  case atStart => exact ⟨0, _, by omega, rfl, rfl, hx, rfl, by first | exact ⟨_, rfl⟩ | exact ⟨0, rfl⟩⟩
  case round =>
    obtain ⟨j, f, hj, rfl, rfl, hd, hq, n2, hwr⟩ := hrel
    have HW := Lib.hid hwr
    clear hwr
    cases hg : geqC f K15
    · have t1 : (FloatKind.f64.format.order f 4609434218613702656 == some .gt || FloatKind.f64.format.order f 4609434218613702656 == some .eq) = false := hg
      have hd2 := hd.stop hg
      rw [dn_no hg] at hq
      have HQ := Lib.hid hq
      clear hg hd hq hx
      go_wp2_with fail
      go_loopw [0, 3] (fun p i wr => ∃ (k g : Nat), k ≤ 149 ∧ i = .int .i64 ((j : Int) - (k : Int)) ∧ p = .float .f64 g ∧ D2 k g ∧ up (149 - k) g ((j : Int) - (k : Int)) = up 149 f j ∧ ∃ n, wr = w0.drewN n) (fun _ i _ => (intOf i - j + 149).toNat)
      case atStart => exact ⟨0, _, by omega, by simp, rfl, hd2, by simp, by rw [HW.out]; first | exact ⟨_, rfl⟩ | exact ⟨0, rfl⟩⟩
      case round =>
        obtain ⟨k, g, hk, rfl, rfl, hd3, hq2, n3, hwr⟩ := hrel
        have HW2 := Lib.hid hwr
        clear hwr hd2
        cases hg : lssC g K075
        · have t2 : (FloatKind.f64.format.order g 4604930618986332160 == some .lt) = false := hg
          rw [up_no hg] at hq2
          have hP : tenP x = (g, (j : Int) - (k : Int)) := by unfold tenP; rw [← HQ.out]; exact hq2.symm
          have HT : Hid (tenF x = wholeI (floorW (teT g ((j : Int) - (k : Int))))) := by show tenF x = _; unfold tenF; rw [hP]
          have HG : Hid (cn .f64 g = g) := cn_fin' (hd3.2.1.fin (by omega))
          have HTP := Lib.hid hP
          clear hg hd3 hq2 hP hj hk
          obtain ⟨ee, hee⟩ : ∃ ee, ee = (j : Int) - (k : Int) := ⟨_, rfl⟩
          skip
          have HEE := Lib.hid hee
          clear hee
          go_wp2_with fail
          go_loopw [6, 7] (fun p i wr => ∃ m : Nat, m ≤ 13 ∧ i = .int .i64 (25 - 2 * (m : Int)) ∧ (∃ pb, p = .float .f64 pb ∧ cn .f64 pb = pT (fo .mul .f64 (sT g) (sT g)) m) ∧ ∃ n, wr = w0.drewN n) (fun _ i _ => (intOf i + 2).toNat)
          case atStart => exact ⟨0, by omega, rfl, ⟨_, rfl, cn0t⟩, by rw [HW2.out]; simp only [World.drewN_drewN]; exact ⟨_, rfl⟩⟩
          case round =>
            obtain ⟨m, hm, rfl, ⟨pb, rfl, hpb⟩, n4, hwr⟩ := hrel
            have HW3 := Lib.hid hwr
            have HPB := Lib.hid hpb
            clear hwr hpb
            by_cases h1 : m < 13
            · have w1 := wrap_25 h1
              go_wp2
              go_roundw
              case rel =>
                refine ⟨m + 1, by omega, by go_num, ⟨_, rfl, ?_⟩, by rw [HW3.out]; simp only [World.drewN_drewN]; exact ⟨_, rfl⟩⟩
                simp only [cn_fv, HPB.out, HG.out, foi_cn, cnK1, pT_step]
                rfl
              case measure => simp [intOf]; omega
            · obtain rfl : m = 13 := by omega
              clear hm h1
              go_wp2_with fail
              go_ret
              refine ⟨_, _, rfl, ?_, by rw [HW3.out]; first | rfl | (simp only [World.drewN_drewN]; rfl)⟩
              simp only [cn_fv, HPB.out, HG.out, foi_cn, cnK1, cnK2, cnKL2]
              rw [HTP.out, ← HEE.out]
              rfl
        · have t2 : (FloatKind.f64.format.order g 4604930618986332160 == some .lt) = true := hg
          have hlt := hd3.lt hg
          have hd4 := hd3.step hlt hg
          have hq3 := (up_yes hlt hg).symm.trans hq2
          have w1 := wrap_dn hj hlt
          obtain ⟨v1, v2⟩ := mul_two (hd3.2.1.fin (by omega))
          have hz := World.drewN_zero
          rw [show (j : Int) - (k : Int) - 1 = (j : Int) - ((k + 1 : Nat) : Int) by omega] at hq3
          clear hg hd3 hq2
          generalize fo .mul .f64 g K2 = g2 at *
          go_wp2
          go_roundw
          case rel => exact ⟨k + 1, _, by omega, by go_num, rfl, hd4, hq3, by rw [HW2.out]; exact ⟨_, rfl⟩⟩
          case measure => simp [intOf]; omega
    · have t1 : (FloatKind.f64.format.order f 4609434218613702656 == some .gt || FloatKind.f64.format.order f 4609434218613702656 == some .eq) = true := hg
      have hlt := hd.lt hj hg
      have hd4 := hd.step hlt hg
      have hq3 := (dn_yes hlt hg).symm.trans hq
      have w1 := wrap_up hlt
      obtain ⟨v1, v2⟩ := quo_two (hd.2.1.fin (by omega))
      have hz := World.drewN_zero
      clear hg hd hq
      generalize fo .quo .f64 f K2 = f2 at *
      go_wp2
      go_roundw
      case rel => exact ⟨j + 1, _, by omega, by go_num, rfl, hd4, hq3, by rw [HW.out]; exact ⟨_, rfl⟩⟩
      case measure => simp [intOf]; omega
theorem ten_end (r : Nat) (y : Nat) {F : Nat} (hr : cn .f64 r = lgT (tenP y).1 (tenP y).2) (hF : teT (tenP y).1 (tenP y).2 = F) (hf : fin .f64 F = true) : ∀ W W' : World, fv .add .f64 (fv .mul .f64 r 4631308968768463603 W) 4602678819172646912 W' = F := by
  intro W W'
  have h : cn .f64 (fv .add .f64 (fv .mul .f64 r 4631308968768463603 W) 4602678819172646912 W') = F := by
    simp only [cn_fv, hr, cnKT, cnK05]
    exact hF
  have hn : isN .f64 (fv .add .f64 (fv .mul .f64 r 4631308968768463603 W) 4602678819172646912 W') = false := by rw [← isN_cn, h]; exact isN_of_fin hf
  rw [cn_of_not hn] at h
  exact h
def tenB (x : Nat) : Bool := fin .f32 x && !(FloatKind.f32.format.order x 0 == some .lt || FloatKind.f32.format.order x 0 == some .eq)
def tenR (x : Nat) : Int := if tenB x then tenF (FloatKind.f64.format.word (sg .f32 x) (wr x)) else 0
theorem ten_facts {x : Nat} (hf : fin .f32 x = true) (hp : (FloatKind.f32.format.order x 0 == some .lt || FloatKind.f32.format.order x 0 == some .eq) = false) : D1 0 (FloatKind.f64.format.word (sg .f32 x) (wr x)) := by
  rw [lt_zero hf, eq_zero hf] at hp
  have hr : rg .f32 x ≠ 0 := by intro h; rw [decide_eq_true h] at hp; simp at hp
  have hs : sg .f32 x = false := by rw [decide_eq_true hr, Bool.and_true] at hp; cases h : sg .f32 x <;> simp_all
  exact D1_start hf hs hr
theorem ten_wide {x : Nat} (h : D1 0 x) : isN .f64 x = false ∧ (FloatKind.f64.format.order x 0 == some .lt) = false ∧ (FloatKind.f64.format.order x 0 == some .eq) = false ∧ (FloatKind.f64.format.order x 9218868437227405311 == some .gt) = false := by
  have hf := h.2.1.fin (by omega)
  have hM : fin .f64 9218868437227405311 = true := by decide +kernel
  refine ⟨isN_of_fin hf, ?_, ?_, ?_⟩
  · rw [lt_zero hf, h.1]; rfl
  · rw [eq_zero hf]
    refine decide_eq_false ?_
    have h1 := h.2.2
    have h2 : 0 < RP (-149) := by decide +kernel
    omega
  · rw [gt_fin hf hM, wv_pos_word (k := .f64) (r := 9218868437227405311) (by decide +kernel), pos_val h.1]
    refine decide_eq_false ?_
    have h1 : rg .f64 x ≤ RP 128 := h.2.1
    have h2 : RP 128 ≤ 9218868437227405311 := by decide +kernel
    have := rv_le FloatKind.f64.format (r := rg .f64 x) (s := 9218868437227405311) (by decide +kernel) (by omega)
    grind
theorem tenP_ok {x : Nat} (h : D1 0 x) : Bd (teT (tenP x).1 (tenP x).2) 40 := by
  have l1 : ∀ n j f : Nat, n = 128 - j → j ≤ 128 → D1 j f → ∃ (j' f' : Nat), dn n f j = (f', (j' : Int)) ∧ j' ≤ 128 ∧ D2 0 f' := by
    intro n
    induction n with
    | zero =>
      intro j f hn hj hd
      cases hg : geqC f K15
      · exact ⟨j, f, rfl, hj, hd.stop hg⟩
      · have := hd.lt hj hg
        omega
    | succ n ih =>
      intro j f hn hj hd
      cases hg : geqC f K15
      · exact ⟨j, f, dn_no hg, hj, hd.stop hg⟩
      · have hlt := hd.lt hj hg
        obtain ⟨j', f', e, r⟩ := ih (j + 1) _ (by omega) (by omega) (hd.step hlt hg)
        refine ⟨j', f', ?_, r⟩
        have := dn_yes (e := (j : Int)) hlt hg
        rw [← hn] at this
        rw [this, show 128 - (j + 1) = n by omega]
        exact e
  have l2 : ∀ n (a k g : Nat), n = 149 - k → a ≤ 128 → k ≤ 149 → D2 k g → ∃ (k' g' : Nat), up n g ((a : Int) - (k : Int)) = (g', (a : Int) - (k' : Int)) ∧ k' ≤ 149 ∧ D2 k' g' := by
    intro n
    induction n with
    | zero =>
      intro a k g hn ha hk hd
      exact ⟨k, g, rfl, hk, hd⟩
    | succ n ih =>
      intro a k g hn ha hk hd
      cases hg : lssC g K075
      · exact ⟨k, g, up_no hg, hk, hd⟩
      · have hlt := hd.lt hg
        obtain ⟨k', g', e, r⟩ := ih a (k + 1) _ (by omega) ha (by omega) (hd.step hlt hg)
        refine ⟨k', g', ?_, r⟩
        have := up_yes (e := (a : Int) - (k : Int)) hlt hg
        rw [← hn] at this
        rw [this, show 149 - (k + 1) = n by omega, show (a : Int) - (k : Int) - 1 = (a : Int) - ((k + 1 : Nat) : Int) by omega]
        exact e
  obtain ⟨j', f', e1, hj, hd⟩ := l1 128 0 x rfl (by omega) h
  obtain ⟨k', g', e2, hk, hd2⟩ := l2 149 j' 0 f' rfl hj (by omega) hd
  have hP : tenP x = (g', (j' : Int) - (k' : Int)) := by
    unfold tenP
    rw [show ((0 : Nat) : Int) = 0 from rfl] at e1 e2
    rw [e1]
    rw [show (j' : Int) - 0 = (j' : Int) by omega] at e2
    exact e2
  rw [hP]
  exact teT_bd hd2.1 hd2.2.1 (by omega)
set_option maxHeartbeats 2000000 in
theorem l01Ten_any (x y F : Nat) (w : World) (hcv : ∀ W : World, cv .f32 .f64 x W = y) (hcd : cd .f32 .f64 x = 0) (hD : D1 0 y) (q1 : isN .f64 y = false) (q2 : (FloatKind.f64.format.order y 0 == some .lt) = false) (q3 : (FloatKind.f64.format.order y 0 == some .eq) = false) (q4 : (FloatKind.f64.format.order y 9218868437227405311 == some .gt) = false)
    (hF : teT (tenP y).1 (tenP y).2 = F) (hFf : fin .f64 F = true) (hcvi : ∀ u : World, (convert 25 2 (.float .f64 (floorW F))).run Try.prog u = .ok (.int .i64 (wholeI (floorW F))) u) :
    Calls Try.prog 35 #[.float .f32 x] w fun e w' => ∃ n, e = .returned (.int .i64 (wholeI (floorW F))) ∧ w' = w.drewN n := by
  have hz := World.drewN_zero
  have HF := Lib.hid hF
  clear hF
  go_enter Try.func35, Try.ntmps35
  go_wp2_with fail
  refine (logWide_any _ _ hD q1 q2 q3 q4).mono ?_
  rintro e w' ⟨r, n2, rfl, hr, rfl⟩
  have hr2 := ten_end r _ hr HF.out hFf
  clear hr hcv hcd q1 q2 q3 q4 hD
  go_wp2_with fail
  refine (Floor_any _ _ hFf).mono ?_
  rintro e w' ⟨rfl, rfl⟩
  go_wp2
  go_ret
  exact ⟨_, rfl, rfl⟩
set_option maxHeartbeats 2000000 in
theorem specTen_any (x : Nat) (w : World) : Calls Try.prog 13 #[.float .f32 x] w fun e w' => ∃ n, e = .returned (.tuple #[.int .i64 (tenR x), .bool (tenB x)]) ∧ w' = w.drewN n := by
  cases hf : fin .f32 x
  · have h1 : tenB x = false := by unfold tenB; rw [hf]; rfl
    have h2 : tenR x = 0 := by unfold tenR; rw [h1]; rfl
    rw [h1, h2]
    clear h1 h2
    go_enter Try.func13, Try.ntmps13
    go_wp2_with (go_at_call 34; refine (l01Finite_any _ _).mono ?_; rintro e w' ⟨rfl, n, rfl⟩)
    go_ret2
    first | exact ⟨_, rfl, rfl⟩ | (simp only [hf]; exact ⟨_, rfl, rfl⟩)
  · cases hp : (FloatKind.f32.format.order x 0 == some .lt || FloatKind.f32.format.order x 0 == some .eq)
    · have h1 : tenB x = true := by unfold tenB; rw [hf, hp]; rfl
      have h2 : tenR x = tenF (FloatKind.f64.format.word (sg .f32 x) (wr x)) := by unfold tenR; rw [h1]; rfl
      have hD := ten_facts hf hp
      obtain ⟨hcv, hcd, hfy, hry⟩ := widen_is hf
      obtain ⟨q1, q2, q3, q4⟩ := ten_wide hD
      have hbd := tenP_ok hD
      have hconv := floor_conv hbd
      have hfb := floorW_bd hbd
      have H2 : Hid (tenR x = wholeI (floorW (teT (tenP (FloatKind.f64.format.word (sg .f32 x) (wr x))).1 (tenP (FloatKind.f64.format.word (sg .f32 x) (wr x))).2))) := h2
      rw [h1]
      have hz := World.drewN_zero
      clear h1 h2 hry
      generalize FloatKind.f64.format.word (sg .f32 x) (wr x) = y at *
      generalize hF : teT (tenP y).1 (tenP y).2 = F at *
      have HF := Lib.hid hF
      have hFf := hbd.fin (show (40 : Int) ≤ 1023 by omega)
      have hcvi := fun u : World => run_convert_float_int (P := Try.prog) u 25 2 .f64 .i64 (floorW F) (wholeI (floorW F)) (by rw [Try.underlying25]; rfl) Try.underlying2 hconv
      clear hF hbd hconv hfb
      go_enter Try.func13, Try.ntmps13
      go_wp2_with (first | (go_at_call 34; refine (l01Finite_any _ _).mono ?_; rintro e w' ⟨rfl, n, rfl⟩))
      refine (l01Ten_any _ _ _ _ hcv hcd hD q1 q2 q3 q4 HF.out hFf hcvi).mono ?_
      rintro e w' ⟨n2, rfl, rfl⟩
      go_wp2
      go_ret2
      exact ⟨_, by rw [H2.out]; rfl, rfl⟩
    · have h1 : tenB x = false := by unfold tenB; rw [hf, hp]; rfl
      have h2 : tenR x = 0 := by unfold tenR; rw [h1]; rfl
      rw [h1, h2]
      clear h1 h2
      go_enter Try.func13, Try.ntmps13
      go_wp2_with (go_at_call 34; refine (l01Finite_any _ _).mono ?_; rintro e w' ⟨rfl, n, rfl⟩)
      go_ret2
      exact ⟨_, rfl, rfl⟩
theorem Floor_eq {F : Nat} (t : Nat) (w : World) (h : cn .f64 t = F) (hF : fin .f64 F = true) :
    Calls Try.prog 37 #[.float .f64 t] w fun e w' => e = .returned (.float .f64 (floorW F)) ∧ w = w' := by
  have hn : isN .f64 t = false := by rw [← isN_cn, h]; exact isN_of_fin hF
  rw [cn_of_not hn] at h
  rw [h]
  exact Floor_any F w hF
set_option maxHeartbeats 8000000 in
theorem implTen_mid (z x : Nat) (w0 : World) (hf : fin .f32 z = true) (hp : (FloatKind.f32.format.order z 0 == some .lt || FloatKind.f32.format.order z 0 == some .eq) = false) (hcv : ∀ W : World, cv .f32 .f64 z W = x) (hcd : cd .f32 .f64 z = 0) (hx : D1 0 x) :
    Calls Try.prog 14 #[.float .f32 z] w0 fun e w' => ∃ n, e = .returned (.tuple #[.int .i64 (tenF x), .bool true]) ∧ w' = w0.drewN n := by
  have hz := World.drewN_zero
  go_enter Try.func14, Try.ntmps14
  go_wp2_with (go_at_call 36; refine (IsFinite_any _ _).mono ?_; rintro e w' ⟨rfl, n, rfl⟩)
  go_loopw [4, 5] (fun p i wr => ∃ (j f : Nat), j ≤ 128 ∧ i = .int .i64 j ∧ p = .float .f64 f ∧ D1 j f ∧ dn (128 - j) f j = dn 128 x 0 ∧ ∃ n, wr = w0.drewN n) (fun _ i _ => (128 - intOf i).toNat)
  case atStart => exact ⟨0, _, by omega, rfl, rfl, hx, rfl, by first | exact ⟨_, rfl⟩ | exact ⟨0, rfl⟩⟩
  case round =>
    obtain ⟨j, f, hj, rfl, rfl, hd, hq, n2, hwr⟩ := hrel
    have HW := Lib.hid hwr
    clear hwr
    cases hg : geqC f K15
    · have t1 : (FloatKind.f64.format.order f 4609434218613702656 == some .gt || FloatKind.f64.format.order f 4609434218613702656 == some .eq) = false := hg
      have hd2 := hd.stop hg
      rw [dn_no hg] at hq
      have HQ := Lib.hid hq
      clear hg hd hq hx
      go_wp2_with fail
      go_loopw [4, 5] (fun p i wr => ∃ (k g : Nat), k ≤ 149 ∧ i = .int .i64 ((j : Int) - (k : Int)) ∧ p = .float .f64 g ∧ D2 k g ∧ up (149 - k) g ((j : Int) - (k : Int)) = up 149 f j ∧ ∃ n, wr = w0.drewN n) (fun _ i _ => (intOf i - j + 149).toNat)
      case atStart => exact ⟨0, _, by omega, by simp, rfl, hd2, by simp, by rw [HW.out]; first | exact ⟨_, rfl⟩ | exact ⟨0, rfl⟩⟩
      case round =>
        obtain ⟨k, g, hk, rfl, rfl, hd3, hq2, n3, hwr⟩ := hrel
        have HW2 := Lib.hid hwr
        clear hwr hd2
        cases hg : lssC g K075
        · have t2 : (FloatKind.f64.format.order g 4604930618986332160 == some .lt) = false := hg
          rw [up_no hg] at hq2
          have hP : tenP x = (g, (j : Int) - (k : Int)) := by unfold tenP; rw [← HQ.out]; exact hq2.symm
          have hbd := teT_bd (e := (j : Int) - (k : Int)) hd3.1 hd3.2.1 (by omega)
          have hcv := floor_conv hbd
          have HT : Hid (tenF x = wholeI (floorW (teT g ((j : Int) - (k : Int))))) := by show tenF x = _; unfold tenF; rw [hP]
          have HG : Hid (cn .f64 g = g) := cn_fin' (hd3.2.1.fin (by omega))
          have HBD := Lib.hid hbd
          have HCV := Lib.hid hcv
          clear hg hd3 hq2 hP hbd hcv hj hk
          obtain ⟨ee, hee⟩ : ∃ ee, ee = (j : Int) - (k : Int) := ⟨_, rfl⟩
          rw [← hee] at HT HBD HCV ⊢
          have HEE := Lib.hid hee
          clear hee
          go_wp2_with fail
          go_loopw [8, 9] (fun p i wr => ∃ m : Nat, m ≤ 13 ∧ i = .int .i64 (25 - 2 * (m : Int)) ∧ (∃ pb, p = .float .f64 pb ∧ cn .f64 pb = pT (fo .mul .f64 (sT g) (sT g)) m) ∧ ∃ n, wr = w0.drewN n) (fun _ i _ => (intOf i + 2).toNat)
          case atStart => exact ⟨0, by omega, rfl, ⟨_, rfl, cn0t⟩, by rw [HW2.out]; simp only [World.drewN_drewN]; exact ⟨_, rfl⟩⟩
          case round =>
            obtain ⟨m, hm, rfl, ⟨pb, rfl, hpb⟩, n4, hwr⟩ := hrel
            have HW3 := Lib.hid hwr
            have HPB := Lib.hid hpb
            clear hwr hpb
            by_cases h1 : m < 13
            · have w1 := wrap_25 h1
              go_wp2
              go_roundw
              case rel =>
                refine ⟨m + 1, by omega, by go_num, ⟨_, rfl, ?_⟩, by rw [HW3.out]; simp only [World.drewN_drewN]; exact ⟨_, rfl⟩⟩
                simp only [cn_fv, HPB.out, HG.out, foi_cn, cnK1, pT_step]
                rfl
              case measure => simp [intOf]; omega
            · obtain rfl : m = 13 := by omega
              clear hm h1
              go_wp2_with fail
              refine (Floor_eq (F := teT g ee) _ _ ?_ (HBD.out.fin (by omega))).mono ?_
              · simp only [cn_fv, HPB.out, HG.out, foi_cn, cnK1, cnK2, cnKL2, cnKT, cnK05]
                rfl
              rintro e w' ⟨rfl, rfl⟩
              have hcvi := fun u : World => run_convert_float_int (P := Try.prog) u 25 2 .f64 .i64 (floorW (teT g ee)) (wholeI (floorW (teT g ee))) (by rw [Try.underlying25]; rfl) Try.underlying2 HCV.out
              go_wp2
              go_ret2
              exact ⟨_, by rw [HT.out]; rfl, by rw [HW3.out]; first | rfl | (simp only [World.drewN_drewN]; rfl)⟩
        · have t2 : (FloatKind.f64.format.order g 4604930618986332160 == some .lt) = true := hg
          have hlt := hd3.lt hg
          have hd4 := hd3.step hlt hg
          have hq3 := (up_yes hlt hg).symm.trans hq2
          have w1 := wrap_dn hj hlt
          obtain ⟨v1, v2⟩ := mul_two (hd3.2.1.fin (by omega))
          have hz := World.drewN_zero
          rw [show (j : Int) - (k : Int) - 1 = (j : Int) - ((k + 1 : Nat) : Int) by omega] at hq3
          clear hg hd3 hq2
          generalize fo .mul .f64 g K2 = g2 at *
          go_wp2
          go_roundw
          case rel => exact ⟨k + 1, _, by omega, by go_num, rfl, hd4, hq3, by rw [HW2.out]; exact ⟨_, rfl⟩⟩
          case measure => simp [intOf]; omega
    · have t1 : (FloatKind.f64.format.order f 4609434218613702656 == some .gt || FloatKind.f64.format.order f 4609434218613702656 == some .eq) = true := hg
      have hlt := hd.lt hj hg
      have hd4 := hd.step hlt hg
      have hq3 := (dn_yes hlt hg).symm.trans hq
      have w1 := wrap_up hlt
      obtain ⟨v1, v2⟩ := quo_two (hd.2.1.fin (by omega))
      have hz := World.drewN_zero
      clear hg hd hq
      generalize fo .quo .f64 f K2 = f2 at *
      go_wp2
      go_roundw
      case rel => exact ⟨j + 1, _, by omega, by go_num, rfl, hd4, hq3, by rw [HW.out]; exact ⟨_, rfl⟩⟩
      case measure => simp [intOf]; omega
set_option maxHeartbeats 2000000 in
theorem implTen_any (x : Nat) (w : World) : Calls Try.prog 14 #[.float .f32 x] w fun e w' => ∃ n, e = .returned (.tuple #[.int .i64 (tenR x), .bool (tenB x)]) ∧ w' = w.drewN n := by
  cases hf : fin .f32 x
  · have h1 : tenB x = false := by unfold tenB; rw [hf]; rfl
    have h2 : tenR x = 0 := by unfold tenR; rw [h1]; rfl
    rw [h1, h2]
    clear h1 h2
    go_enter Try.func14, Try.ntmps14
    go_wp2_with (go_at_call 36; refine (IsFinite_any _ _).mono ?_; rintro e w' ⟨rfl, n, rfl⟩)
    go_ret2
    exact ⟨_, rfl, rfl⟩
  · cases hp : (FloatKind.f32.format.order x 0 == some .lt || FloatKind.f32.format.order x 0 == some .eq)
    · have h1 : tenB x = true := by unfold tenB; rw [hf, hp]; rfl
      have h2 : tenR x = tenF (FloatKind.f64.format.word (sg .f32 x) (wr x)) := by unfold tenR; rw [h1]; rfl
      rw [h1, h2]
      obtain ⟨hcv, hcd, _, _⟩ := widen_is hf
      exact implTen_mid x _ w hf hp hcv hcd (ten_facts hf hp)
    · have h1 : tenB x = false := by unfold tenB; rw [hf, hp]; rfl
      have h2 : tenR x = 0 := by unfold tenR; rw [h1]; rfl
      rw [h1, h2]
      clear h1 h2
      go_enter Try.func14, Try.ntmps14
      go_wp2_with (go_at_call 36; refine (IsFinite_any _ _).mono ?_; rintro e w' ⟨rfl, n, rfl⟩)
      go_ret2
      exact ⟨_, rfl, rfl⟩
set_option maxHeartbeats 400000 in
theorem fnExactTenthsOf_walk (x : Nat) (hx : (Lit.float .f32 x).wf = true) (w : World) :
    Calls Try.prog 5 #[.float .f32 x] w fun e w' => e = .returned (.bool true) ∧ Below w.heap.size w w' := by
  go_enter Try.func5, Try.ntmps5
  go_wp2_with fail
  refine (specTen_any _ _).mono ?_
  rintro e w1 ⟨n1, rfl, rfl⟩
  go_wp2_with fail
  refine (implTen_any _ _).mono ?_
  rintro e w1 ⟨n2, rfl, rfl⟩
  go_wp2
  go_ret
  exact ⟨rfl, below_drewN (Below.refl _ _) _⟩
end Go.Proofs.Ytokbpcfgeklliaa
