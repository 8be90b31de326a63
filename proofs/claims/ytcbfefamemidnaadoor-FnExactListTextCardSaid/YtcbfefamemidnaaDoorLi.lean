/-
  ListText: the program's side; the law.
-/
import Derived.Test.YtcbfefamemidnaaDoorLt
import Derived.Test.YtcbfefamemidnaaDoorShJ
namespace Go.Proofs.YtcbfefamemidnaaDoor
open Go.RowKit Go.Lib
set_option linter.unusedVariables false
set_option linter.unusedSimpArgs false

def lstPost (xs : List Int) (w : World) (e : Ending) (w' : World) : Prop := e = .returned (.tuple #[.string ⟨(if okL xs then txt (wds xs) else []).toArray⟩, .bool (okL xs)]) ∧ Below w.heap.size w w'
theorem lst_no {xs : List Int} {w w' : World} (h : okL xs = false) (hb : Below w.heap.size w w') : lstPost xs w (.returned (.tuple #[.string ⟨#[]⟩, .bool false])) w' := ⟨by rw [h]; rfl, hb⟩
theorem lst_yes {xs : List Int} {w w' : World} (h : okL xs = true) (hb : Below w.heap.size w w') : lstPost xs w (.returned (.tuple #[.string ⟨(txt (wds xs)).toArray⟩, .bool true])) w' := ⟨by rw [h]; rfl, hb⟩
theorem specList_any (a : Option Addr) (len cap : Nat) (xs : List Int) (w : World) (hr : IsIRow w a len cap xs) (hl : len ≤ 1048576) :
    Calls Tryd.prog 17 #[.slice a len cap] w (lstPost xs w) := by
  have hc := l01List_any a len cap xs w hr hl
  cases ho : okL xs
  · rw [ho] at hc
    have HO := Lib.hid ho
    clear ho
    go_enter Tryd.func17, Tryd.ntmps17
    go_wp2_with (go_at_call 45; refine hc.mono ?_; rintro e w' ⟨rfl, rfl⟩)
    go_ret2
    exact lst_no HO.out (Below.refl _ _)
  · rw [ho] at hc
    have h2 : allV xs = true ∧ len ≤ 64 := by
      have h := ho
      unfold okL at h
      rw [Bool.and_eq_true, decide_eq_true_iff, hr.1] at h
      exact h
    have hd := l01Text_any a len cap xs w hr h2.2 h2.1
    have HO := Lib.hid ho
    clear ho h2
    go_enter Tryd.func17, Tryd.ntmps17
    go_wp2_with (first | (go_at_call 45; refine hc.mono ?_; rintro e w' ⟨rfl, rfl⟩) | (go_at_call 46; refine hd.mono ?_; rintro e w' ⟨rfl, hb⟩))
    go_ret2
    exact lst_yes HO.out hb
theorem info_str : (Tryd.prog.info? 9).map (fun i => (i.zero, i.size, i.bytes)) = some (some (.string ByteArray.empty), 1, 16) := by kernel_rfl
def strs (ws : List (List UInt8)) : List Value := ws.map fun l => Value.string ⟨l.toArray⟩
def wRel (ws : List (List UInt8)) (w : World) (v i : Value) (wr : World) : Prop := ∃ k : Nat, k ≤ ws.length ∧ i = .int .i64 k ∧ wr.ownsRow w.heap.size 9 1 v k (strs (ws.take k)) ∧ Below w.heap.size w wr
theorem addr_add (g j : Nat) : (⟨g, 0, none⟩ : Addr).add j = ⟨g, j, none⟩ := by unfold Addr.add; split <;> simp_all
theorem cell_one_new (w : World) (v : Value) (e : TypeId) : ∀ j u, [v][j]? = some u → (w.alloc (.cells #[v] e)).cell? ((⟨w.heap.size, 0, none⟩ : Addr).add j) = some u := by
  intro j u hj
  match j, hj with
  | 0, hj => simp at hj; subst hj; simp [Addr.add]
theorem app_rel {ws : List (List UInt8)} {w w2 : World} {k : Nat} {x : Value} (hb : Below w.heap.size w w2) (hs : strs (ws.take (k + 1)) = strs (ws.take k) ++ [x]) {v : Value} (v2 : Value) (w3 : World)
    (hv : ∀ j, v.ownBlock = some j → w.heap.size ≤ j) (ho : w3.ownsRow w.heap.size 9 1 v2 (k + 1) (strs (ws.take k) ++ [x])) (hg : (w2.alloc (.cells #[x] 9)).grownBy w3 v.ownBlock) :
    w3.ownsRow w.heap.size 9 1 v2 (k + 1) (strs (ws.take (k + 1))) ∧ Below w.heap.size w w3 := by
  rw [hs]
  have := hb.size
  exact ⟨ho, (hb.alloc hb.size _).grown hg (by simp; omega) hv⟩
set_option maxHeartbeats 1000000 in
theorem joinI_any (a : Option Addr) (len cap : Nat) (xs : List Int) (w : World) (hr : IsIRow w a len cap xs) (hl : len ≤ 64) (hv : allV xs = true) (hp : Pow w) :
    Calls Tryd.prog 47 #[.slice a len cap, .func (.func 12) #[] #[]] w (strPost (txt (wds xs)) w) := by
  obtain ⟨h1, h2, h3, h4⟩ := hr
  by_cases h0 : len = 0
  · subst h0
    have e : xs = [] := List.eq_nil_of_length_eq_zero h1
    subst e
    clear h4 hv
    go_enter Tryd.func47, Tryd.ntmps47
    go_wp2
    go_ret
    exact ⟨rfl, Below.refl _ _⟩
  rcases h4 with h4 | ⟨b, off, rfl, hbl, hc⟩
  · exfalso; rw [h4] at h1; simp at h1; omega
  obtain ⟨i0, hi, hz0, hz1, hz2⟩ := info_parts info_str
  have HI := Lib.hid (And.intro hi (And.intro hz0 (And.intro hz1 hz2)))
  have HD : Hid (∀ k, k < len → ∀ W : World, Pow W → Calls Tryd.prog 12 #[.int .i64 (xs.getD k 0)] W (strPost (itoa (xs.getD k 0)) W)) := fun k hk W hP => by
    have := isV_iff.1 (isV_at hv (k := k) (by omega))
    exact implDec_any _ W (by omega) (by omega) hP
  have HP := Lib.hid hp
  have HWL : Hid ((wds xs).length = len) := by show _ = _; rw [wds_len, h1]
  have HAT : Hid (∀ k, k < len → strs ((wds xs).take (k + 1)) = strs ((wds xs).take k) ++ [Value.string ⟨(itoa (xs.getD k 0)).toArray⟩]) := fun k hk => by
    unfold strs
    rw [List.take_succ_eq_append_getElem (by rw [wds_len]; omega), List.map_append, List.map_cons, wds_at (by omega)]
    rfl
  have HC := Lib.hid hc
  have HH1 := Lib.hid h1
  have HV := Lib.hid hv
  have hpos : 0 < len := by omega
  have hne : ((len : Int) == 0) = false := by simp; omega
  clear hi hz0 hz1 hz2 hp hc hv h1 h0
  go_enter Tryd.func47, Tryd.ntmps47
  go_wp2
  go_loopw [5, 13] (fun v i wr => wRel (wds xs) w v i wr) (fun _ i _ => len - (Go.RowKit.intOf i).toNat)
  case atStart => exact ⟨0, Nat.zero_le _, rfl, World.ownsRow_nil _ _ _ _, Below.refl _ _⟩
  case round =>
    obtain ⟨k, hk, rfl, ho, hb⟩ := hrel
    have hk' : k ≤ len := by have := HWL.out; omega
    have hsz := hb.size
    by_cases hlt : k < len
    · have hcx : wr.cell? ⟨b, off + k, none⟩ = some (.int .i64 (xs.getD k 0)) := by rw [hb.cell (p := ⟨b, off + k, none⟩) hbl]; exact HC.out k hlt
      have hcall := HD.out k hlt
      have HA := Lib.hid (HAT.out k hlt)
      have HPw := Lib.hid (HP.out.below hb)
      generalize xs.getD k 0 = x at *
      go_wp2_with (go_at_call 12; refine (hcall _ HPw.out).mono ?_; rintro e w2 ⟨rfl, hb2⟩; refine Hid.out ?_)
      refine Lib.hid ?_
      have hb3 := hb.trans (hb2.mono hb.size)
      have ho2 := own_below ho hb2
      have hsz2 := hb3.size
      clear ho
      go_wp2_with (at_builtin; go_loud (refine wpList_append_own _ rfl (.tmp 17) (.tmp 21) 81 rfl w.heap.size 9 i0 (.string ByteArray.empty) 1 16 Tryd.underlying81 HI.out.1 HI.out.2.1 HI.out.2.2.1 HI.out.2.2.2 rfl (by decide) _ k _ rfl (by exact ho2.alloc _) ⟨w2.heap.size, 0, none⟩ 1 1 [Value.string ⟨(itoa x).toArray⟩] rfl rfl (by exact cell_one_new _ _ _) (by simp [Value.oneCell']) (by unfold maxLen; omega) (by omega) (by simp; omega) ?_); intro v2 w3 hown3 hgrow hnil; refine Hid.out ?_)
      refine Lib.hid ?_
      have HY := Lib.hid (app_rel (ws := wds xs) hb3 HA.out v2 w3 (fun j hj => (ho2.lt j hj).1) hown3 hgrow)
      clear hown3 hgrow hnil ho2
      go_wp2
      go_roundw
      case rel => exact ⟨k + 1, by have := HWL.out; omega, by go_num, HY.out.1, HY.out.2⟩
      case measure => simp [Go.RowKit.intOf]; omega
    · obtain rfl : k = len := by omega
      rw [List.take_of_length_le (by have := HWL.out; omega)] at ho
      have e : (wds xs).length = k := HWL.out
      rcases ho.2 with ⟨-, h0⟩ | ⟨g, c, cur, rfl, hg, hgg, hkc, -, -, -⟩
      · omega
      have hj := Tryd.strings_Join g 0 c ((wds xs).map fun l => ⟨l.toArray⟩) ⟨#[44]⟩ wr (fun j x hx => by
        have hx' : (strs (wds xs))[j]? = some (.string x) := by
          unfold strs
          rw [List.getElem?_map] at hx ⊢
          cases hw : (wds xs)[j]? with
          | none => rw [hw] at hx; cases hx
          | some y => rw [hw] at hx; cases hx; rfl
        have := ho.cells (g := g) rfl j _ hx'
        rw [addr_add, ← Nat.zero_add j] at this
        exact this) (Array.getElem?_eq_some_iff.1 hgg).1 (by simp; omega) (by simp; omega) ?hlen
      case hlen =>
        have := jn_len (wds xs) k 17 (wds_short HV.out)
        rw [show k = (wds xs).length from e.symm, jn_all] at this
        rw [List.map_map]
        have e2 : (wds xs).map ((fun x : ByteArray => x.data.toList) ∘ fun l => ⟨l.toArray⟩) = wds xs := by
          rw [show ((fun x : ByteArray => x.data.toList) ∘ fun l => ⟨l.toArray⟩) = id from rfl, List.map_id]
        rw [e2]
        show (join (wds xs) [44]).length ≤ _
        omega
      rw [List.map_map, show ((fun x : ByteArray => x.data.toList) ∘ fun l => ⟨l.toArray⟩) = id from rfl, List.map_id] at hj
      simp only [List.length_map] at hj
      rw [e] at hj
      have HT : Hid (txt (wds xs) = join (wds xs) [44]) := by show _ = _; rw [txt_cons (by omega), jn_all]
      clear ho e
      go_wp2_with (go_at_call 74; refine hj.mono ?_; rintro e w4 ⟨rfl, hb4⟩)
      go_ret
      exact ⟨by rw [HT.out]; rfl, hb.trans (hb4.mono hb.size)⟩
set_option maxHeartbeats 1000000 in
theorem implList_any (a : Option Addr) (len cap : Nat) (xs : List Int) (w : World) (hr : IsIRow w a len cap xs) (hl : len ≤ 1048576) (hp : Pow w) :
    Calls Tryd.prog 19 #[.slice a len cap] w (lstPost xs w) := by
  by_cases h64 : len ≤ 64
  · have hj := fun h => joinI_any a len cap xs w hr h64 h hp
    obtain ⟨h1, h2, h3, h4⟩ := hr
    have HJ := Lib.hid hj
    clear hj hp
    go_enter Tryd.func19, Tryd.ntmps19
    go_wp2
    go_loop [11] (fun i => ∃ k : Nat, k ≤ len ∧ i = .int .i64 k ∧ allV (xs.take k) = true) (fun i => len - (Go.RowKit.intOf i).toNat)
    case atStart => exact ⟨0, Nat.zero_le _, rfl, rfl⟩
    case round =>
      obtain ⟨k, hk, rfl, ha⟩ := hrel
      by_cases hlt : k < len
      · rcases h4 with h4 | ⟨b, off, rfl, hbl, hc⟩
        · exfalso; rw [h4] at h1; simp at h1; omega
        have hc1 := hc k hlt
        have ht := allV_take (xs := xs) (k := k) (by omega)
        have ho : allV (xs.take (k + 1)) = false → okL xs = false := fun h => by unfold okL; rw [allV_of_take _ h]; rfl
        rw [ha, Bool.true_and] at ht
        generalize xs.getD k 0 = x at *
        cases hv : isV x
        · rw [hv] at ht
          have HO := Lib.hid (ho ht)
          have HV := Lib.hid hv
          clear ho ht ha hv hc h1
          go_wp2_with (go_at_call 42; refine (isValue_no _ _ HV.out).mono ?_; rintro e w' ⟨rfl, rfl⟩)
          go_ret2
          exact lst_no HO.out (Below.refl _ _)
        · rw [hv] at ht
          have HT := Lib.hid ht
          have HV := Lib.hid hv
          clear ho ht ha hv hc h1
          go_wp2_with (go_at_call 42; refine (isValue_yes _ _ HV.out).mono ?_; rintro e w' ⟨rfl, rfl⟩)
          go_round
          case rel => exact ⟨k + 1, by omega, by go_num, HT.out⟩
          case measure => simp [Go.RowKit.intOf]; omega
      · obtain rfl : k = len := by omega
        rw [List.take_of_length_le (by omega)] at ha
        have HO : Hid (okL xs = true) := by show _ = _; unfold okL; rw [ha, h1, decide_eq_true h64]; rfl
        have hj := HJ.out ha
        clear ha h1 h4
        go_wp2_with (go_at_call 47; refine hj.mono ?_; rintro e w' ⟨rfl, hb⟩)
        go_ret2
        exact lst_yes HO.out hb
  · have HO : Hid (okL xs = false) := by show _ = _; unfold okL; rw [hr.1, decide_eq_false h64, Bool.and_false]
    have h65 : 64 < len := by omega
    clear hr h64 hp
    go_enter Tryd.func19, Tryd.ntmps19
    go_wp2
    go_ret2
    exact lst_no HO.out (Below.refl _ _)
theorem bel_drewN {B : Nat} {a w : World} (h : Below B a w) (n : Nat) : Below B a (w.drewN n) := ⟨h.os, h.tape, h.output, h.size, h.block⟩
theorem irow_drew {w : World} {a : Option Addr} {len cap n : Nat} {zs : List Int} (h : IsIRow w a len cap zs) : IsIRow (w.drewN n) a len cap zs := h
set_option maxHeartbeats 2000000 in
theorem fnExactListText_walk (a : Option Addr) (len cap : Nat) (xs : List Int) (w : World) (hr : IsIRow w a len cap xs) (hwf : ∀ z ∈ xs, (Lit.int .i64 z).wf = true) (hL : laidMet Tryd.prog Rows.fnExactListTextRow.laid w) :
    Calls Tryd.prog 6 #[.slice a len cap] w fun e w' => e = .returned (.bool true) ∧ Below w.heap.size w w' := by
  have HP := Lib.hid (pow_list hL)
  have hcap : cap ≤ maxLen := hr.2.2.1
  have hlc : len ≤ cap := hr.2.1
  unfold maxLen at hcap
  clear hL hwf
  by_cases hl : len ≤ 1048576
  · have HT : Hid (∀ W, Below w.heap.size w W → Calls Tryd.prog 18 #[.slice a len cap] W fun e w' => e = .returned (.slice (some ⟨W.heap.size, 0, none⟩) len len) ∧
      w'.ownsRow W.heap.size 2 1 (.slice (some ⟨W.heap.size, 0, none⟩) len len) len (xs.map mkI) ∧ Below W.heap.size W w') := fun W hb => toI_any a len cap xs W (row_below hr hb) hl
    obtain ⟨T, hT⟩ : ∃ T : ByteArray, T = ⟨(if okL xs then txt (wds xs) else []).toArray⟩ := ⟨_, rfl⟩
    obtain ⟨B, hB⟩ : ∃ B, B = okL xs := ⟨_, rfl⟩
    have HS : Hid (∀ (a : Option Addr) (cap : Nat) (W : World), IsIRow W a len cap xs → Calls Tryd.prog 17 #[.slice a len cap] W fun e w' => e = .returned (.tuple #[.string T, .bool B]) ∧ Below W.heap.size W w') := fun a cap W h => by
      subst hT; subst hB; exact specList_any a len cap xs W h hl
    have HM : Hid (∀ (a : Option Addr) (cap : Nat) (W : World), Pow W → IsIRow W a len cap xs → Calls Tryd.prog 19 #[.slice a len cap] W fun e w' => e = .returned (.tuple #[.string T, .bool B]) ∧ Below W.heap.size W w') := fun a cap W hP h => by
      subst hT; subst hB; exact implList_any a len cap xs W h hl hP
    clear hr hT hB
    go_enter Tryd.func6, Tryd.ntmps6
    go_wp2_with (go_at_call 18; refine (HT.out _ (Below.refl _ _)).mono ?_; rintro e w1 ⟨rfl, ho1, hb1⟩; refine Hid.out ?_)
    refine Lib.hid ?_
    have hr1 := (row_of_own ho1).2
    go_wp2_with (go_at_call 17; refine (HS.out _ _ _ hr1).mono ?_; rintro e w2 ⟨rfl, hb2⟩; refine Hid.out ?_)
    refine Lib.hid ?_
    have hB2 := hb1.trans (hb2.mono hb1.size)
    clear ho1 hr1
    go_wp2_with (go_at_call 18; refine (HT.out _ hB2).mono ?_; rintro e w3 ⟨rfl, ho3, hb3⟩; refine Hid.out ?_)
    refine Lib.hid ?_
    have hB3 := hB2.trans (hb3.mono hB2.size)
    have hr3 := (row_of_own ho3).2
    go_wp2_with (go_at_call 19; refine (HM.out _ _ _ (HP.out.below hB3) hr3).mono ?_; rintro e w4 ⟨rfl, hb4⟩; refine Hid.out ?_)
    refine Lib.hid ?_
    have hB4 := hB3.trans (hb4.mono hB3.size)
    have hr4 := row_below hr3 hb4
    clear ho3 hr3
    go_wp2_with (go_at_call 18; refine (HT.out _ hB4).mono ?_; rintro e w5 ⟨rfl, ho5, hb5⟩; refine Hid.out ?_)
    refine Lib.hid ?_
    have hB5 := hB4.trans (hb5.mono hB4.size)
    have hr5 := (row_of_own ho5).2
    have hr6 := row_below hr4 hb5
    clear ho5 hr4
    go_wp2_with (go_at_call 20; refine (eqI_any _ _ _ _ _ _ _ hr6 hr5 hl).mono ?_; rintro e w6 ⟨rfl, n, rfl⟩)
    go_ret
    exact ⟨rfl, bel_drewN hB5 _⟩
  · have hl' : 1048576 < len := by omega
    clear hr hl
    go_enter Tryd.func6, Tryd.ntmps6
    go_wp2_with fail
    go_ret
    exact ⟨rfl, Below.refl _ _⟩
end Go.Proofs.YtcbfefamemidnaaDoor
