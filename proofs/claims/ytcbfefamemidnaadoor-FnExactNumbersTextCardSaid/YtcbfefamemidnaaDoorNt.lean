/-
  NumbersText: both sides; the law.
-/
import Derived.Test.YtcbfefamemidnaaDoorMk4
import Derived.Test.YtcbfefamemidnaaDoorFb
import Derived.Test.YtcbfefamemidnaaDoorJn
import Derived.Test.YtcbfefamemidnaaDoorShJ
namespace Go.Proofs.YtcbfefamemidnaaDoor
open Go.RowKit Go.Lib
set_option linter.unusedVariables false
set_option linter.unusedSimpArgs false

/-- The word of a number; the words of a list. -/
def hxw (x : Nat) : List UInt8 := hsuf (cn .f32 x) 8
theorem hxw_len (x : Nat) : (hxw x).length = 8 := hsuf_len _ _
def wds (xs : List Nat) : List (List UInt8) := xs.map hxw
theorem wds_len (xs : List Nat) : (wds xs).length = xs.length := by simp [wds]
theorem wds_at {xs : List Nat} {k : Nat} (h : k < xs.length) (h' : k < (wds xs).length) : (wds xs)[k] = hxw (xs.getD k 0) := by simp [wds, List.getD, h]
theorem wds_short (xs : List Nat) : ∀ x ∈ wds xs, x.length ≤ 17 := by
  intro x hx
  obtain ⟨n, _, rfl⟩ := List.mem_map.1 hx
  rw [hxw_len]
  decide
theorem getD_memN {xs : List Nat} {k : Nat} (h : k < xs.length) : xs.getD k 0 ∈ xs := by
  have : xs.getD k 0 = xs[k] := by simp [List.getD, h]
  rw [this]
  exact List.getElem_mem h
theorem db_nt {W : World} (h : laidMet Tryd.prog Rows.fnExactNumbersTextRow.laid W) : Db W := db_of_reads (laidMet.reads h (.tail _ (.head _)))
theorem ba_app (j t : List UInt8) : (⟨j.toArray⟩ : ByteArray) ++ ((⟨#[44]⟩ : ByteArray) ++ (⟨t.toArray⟩ : ByteArray)) = ⟨(j ++ 44 :: t).toArray⟩ := by
  apply Go.WideShapes.bytes_inj
  rw [Go.Joins.data_append, Go.Joins.data_append]
  simp
def txtRel (ws : List (List UInt8)) (w : World) (o i : Value) (wr : World) : Prop := ∃ k : Nat, 1 ≤ k ∧ k ≤ ws.length ∧ i = .int .i64 k ∧ o = .string ⟨(jn ws k).toArray⟩ ∧ Below w.heap.size w wr
set_option maxHeartbeats 1000000 in
theorem l01NText_any (a : Option Addr) (len cap : Nat) (xs : List Nat) (w : World) (hr : IsRow mkF w a len cap xs) (hl : len ≤ 256) (hv : ∀ z ∈ xs, (Lit.float .f32 z).wf = true) :
    Calls Tryd.prog 51 #[.slice a len cap] w (strPost (txt (wds xs)) w) := by
  obtain ⟨h1, h2, h3, h4⟩ := hr
  by_cases h0 : len = 0
  · subst h0
    have e : xs = [] := List.eq_nil_of_length_eq_zero h1
    subst e
    clear h4 hv
    go_enter Tryd.func51, Tryd.ntmps51
    go_wp2
    go_ret
    exact ⟨rfl, Below.refl _ _⟩
  rcases h4 with h4 | ⟨b, off, rfl, hbl, hc⟩
  · exfalso; rw [h4] at h1; simp at h1; omega
  have hs := wds_short xs
  have hwl := wds_len xs
  have hd : ∀ k, k < len → ∀ W : World, Calls Tryd.prog 77 #[.float .f32 (xs.getD k 0)] W (strPost (hxw (xs.getD k 0)) W) := fun k hk W => by
    exact l01Hex_any _ W (hv _ (getD_memN (by omega)))
  have hat : ∀ k (h : k < (wds xs).length), (wds xs)[k] = hxw (xs.getD k 0) := fun k h => wds_at (by omega) h
  have hj1 : jn (wds xs) 1 = hxw (xs.getD 0 0) := by rw [jn_one _ (by omega), hat]
  have hjs : ∀ k, 1 ≤ k → k < len → jn (wds xs) (k + 1) = jn (wds xs) k ++ (44 :: hxw (xs.getD k 0)) := fun k hk1 hk2 => by rw [jn_step _ k hk1 (by omega), hat]
  have hjl : ∀ k, (jn (wds xs) k).length ≤ 4608 := fun k => by have := jn_len (wds xs) k 17 hs; omega
  have hte := txt_cons (ws := wds xs) (by omega)
  have HD := Lib.hid hd
  have HS : Hid (∀ k, k < len → (hxw (xs.getD k 0)).length ≤ 17) := fun k hk => by
    rw [hxw_len]; decide
  have HJ1 := Lib.hid hj1
  have HJS := Lib.hid hjs
  have HJL := Lib.hid hjl
  have HTE := Lib.hid hte
  have HWL := Lib.hid hwl
  have hc0 := hc 0 (by omega)
  rw [Nat.add_zero] at hc0
  have HC := Lib.hid hc
  have hpos : 0 < len := by omega
  have hne : ((len : Int) == 0) = false := by simp; omega
  have HH1 := Lib.hid h1
  clear hs hd hat hj1 hjs hjl hte hwl hc hv h1 h0
  go_enter Tryd.func51, Tryd.ntmps51
  go_wp2_with (go_at_call 77; refine (HD.out 0 hpos _).mono ?_; rintro e w1 ⟨rfl, hb1⟩)
  go_loopw [3, 4] (fun o i wr => txtRel (wds xs) w o i wr) (fun _ i _ => len - (Go.RowKit.intOf i).toNat)
  case atStart => exact ⟨1, Nat.le_refl _, by have := HWL.out; have := HH1.out; omega, rfl, by rw [HJ1.out]; simp [List.getD], hb1⟩
  case round =>
    obtain ⟨k, hk1, hk, rfl, rfl, hb⟩ := hrel
    have hk' : k ≤ len := by have := HWL.out; have := HH1.out; omega
    by_cases hlt : k < len
    · have hcx : wr.cell? ⟨b, off + k, none⟩ = some (.float .f32 (xs.getD k 0)) := by rw [hb.cell (p := ⟨b, off + k, none⟩) hbl]; exact HC.out k hlt
      have hlen := HJL.out k
      have hcall := HD.out k hlt
      have HJK := Lib.hid (HJS.out k hk1 hlt)
      have hx17 := HS.out k hlt
      obtain ⟨J, hJ⟩ : ∃ J, J = jn (wds xs) k := ⟨_, rfl⟩
      rw [← hJ] at hlen HJK ⊢
      have HJJ := Lib.hid hJ
      clear hJ hc0
      generalize xs.getD k 0 = x at *
      go_wp2_with (go_at_call 77; refine (hcall _).mono ?_; rintro e w2 ⟨rfl, hb2⟩)
      go_roundw
      case rel => exact ⟨k + 1, by omega, by have := HWL.out; have := HH1.out; omega, by go_num, by rw [HJK.out, ba_app], hb.trans (hb2.mono hb.size)⟩
      case measure => simp [Go.RowKit.intOf]; omega
    · obtain rfl : k = len := by omega
      have e : (wds xs).length = k := by have := HWL.out; have := HH1.out; omega
      have HE : Hid (jn (wds xs) k = txt (wds xs)) := by show _ = _; rw [HTE.out, e]
      obtain ⟨J, hJ⟩ : ∃ J, J = jn (wds xs) k := ⟨_, rfl⟩
      rw [← hJ] at HE ⊢
      clear hJ e hc0
      go_wp2
      go_ret
      exact ⟨by rw [← HE.out]; rfl, hb⟩
theorem info_str : (Tryd.prog.info? 9).map (fun i => (i.zero, i.size, i.bytes)) = some (some (.string ByteArray.empty), 1, 16) := by kernel_rfl
def strs (ws : List (List UInt8)) : List Value := ws.map fun l => Value.string ⟨l.toArray⟩
def wRel (ws : List (List UInt8)) (w : World) (v i : Value) (wr : World) : Prop := ∃ k : Nat, k ≤ ws.length ∧ i = .int .i64 k ∧ wr.ownsRow w.heap.size 9 1 v k (strs (ws.take k)) ∧ Below w.heap.size w wr
theorem addr_add (g j : Nat) : (⟨g, 0, none⟩ : Addr).add j = ⟨g, j, none⟩ := by unfold Addr.add; split <;> simp_all
theorem cell_one_new (w : World) (v : Value) (e : TypeId) : ∀ j u, [v][j]? = some u → (w.alloc (.cells #[v] e)).cell? ((⟨w.heap.size, 0, none⟩ : Addr).add j) = some u := by
  intro j u hj
  match j, hj with
  | 0, hj => simp at hj; subst hj; simp [Addr.add]
theorem app_rel {ws : List (List UInt8)} {w w2 : World} {k : Nat} {x : Value} (hb : Below w.heap.size w w2) (hs : strs (ws.take (k + 1)) = strs (ws.take k) ++ [x]) {v : Value} (v2 : Value) (w3 : World)
    (hv : ∀ j, v.ownBlock = some j → w.heap.size ≤ j) (ho : w3.ownsRow w.heap.size 9 1 v2 (k + 1) (strs (ws.take k) ++ [x])) (hg : (w2.alloc (.cells #[x] 9)).grownBy w3 v.ownBlock) :
    w3.ownsRow w.heap.size 9 1 v2 (k + 1) (strs (ws.take (k + 1))) ∧ Below w.heap.size w w3 := by
  rw [hs]
  have := hb.size
  exact ⟨ho, (hb.alloc hb.size _).grown hg (by simp; omega) hv⟩
set_option maxHeartbeats 1000000 in
theorem joinF_any (a : Option Addr) (len cap : Nat) (xs : List Nat) (w : World) (hr : IsRow mkF w a len cap xs) (hl : len ≤ 256) (hv : ∀ z ∈ xs, (Lit.float .f32 z).wf = true) (hp : Db w) :
    Calls Tryd.prog 53 #[.slice a len cap, .func (.func 54) #[] #[]] w (strPost (txt (wds xs)) w) := by
  obtain ⟨h1, h2, h3, h4⟩ := hr
  by_cases h0 : len = 0
  · subst h0
    have e : xs = [] := List.eq_nil_of_length_eq_zero h1
    subst e
    clear h4 hv
    go_enter Tryd.func53, Tryd.ntmps53
    go_wp2
    go_ret
    exact ⟨rfl, Below.refl _ _⟩
  rcases h4 with h4 | ⟨b, off, rfl, hbl, hc⟩
  · exfalso; rw [h4] at h1; simp at h1; omega
  obtain ⟨i0, hi, hz0, hz1, hz2⟩ := info_parts info_str
  have HI := Lib.hid (And.intro hi (And.intro hz0 (And.intro hz1 hz2)))
  have HD : Hid (∀ k, k < len → ∀ W : World, Db W → Calls Tryd.prog 54 #[.float .f32 (xs.getD k 0)] W (strPost (hxw (xs.getD k 0)) W)) := fun k hk W hP => by
    exact bitsText_any _ W (hv _ (getD_memN (by omega))) hP
  have HP := Lib.hid hp
  have HWL : Hid ((wds xs).length = len) := by show _ = _; rw [wds_len, h1]
  have HAT : Hid (∀ k, k < len → strs ((wds xs).take (k + 1)) = strs ((wds xs).take k) ++ [Value.string ⟨(hxw (xs.getD k 0)).toArray⟩]) := fun k hk => by
    unfold strs
    rw [List.take_succ_eq_append_getElem (by rw [wds_len]; omega), List.map_append, List.map_cons, wds_at (by omega)]
    rfl
  have HC := Lib.hid hc
  have HH1 := Lib.hid h1
  have HV : Hid (∀ x ∈ wds xs, x.length ≤ 17) := wds_short xs
  have hpos : 0 < len := by omega
  have hne : ((len : Int) == 0) = false := by simp; omega
  clear hi hz0 hz1 hz2 hp hc hv h1 h0
  go_enter Tryd.func53, Tryd.ntmps53
  go_wp2
  go_loopw [5, 13] (fun v i wr => wRel (wds xs) w v i wr) (fun _ i _ => len - (Go.RowKit.intOf i).toNat)
  case atStart => exact ⟨0, Nat.zero_le _, rfl, World.ownsRow_nil _ _ _ _, Below.refl _ _⟩
  case round =>
    obtain ⟨k, hk, rfl, ho, hb⟩ := hrel
    have hk' : k ≤ len := by have := HWL.out; omega
    have hsz := hb.size
    by_cases hlt : k < len
    · have hcx : wr.cell? ⟨b, off + k, none⟩ = some (.float .f32 (xs.getD k 0)) := by rw [hb.cell (p := ⟨b, off + k, none⟩) hbl]; exact HC.out k hlt
      have hcall := HD.out k hlt
      have HA := Lib.hid (HAT.out k hlt)
      have HPw := Lib.hid (HP.out.below hb)
      generalize xs.getD k 0 = x at *
      go_wp2_with (go_at_call 54; refine (hcall _ HPw.out).mono ?_; rintro e w2 ⟨rfl, hb2⟩; refine Hid.out ?_)
      refine Lib.hid ?_
      have hb3 := hb.trans (hb2.mono hb.size)
      have ho2 := own_below ho hb2
      have hsz2 := hb3.size
      clear ho
      go_wp2_with (at_builtin; go_loud (refine wpList_append_own _ rfl (.tmp 17) (.tmp 21) 81 rfl w.heap.size 9 i0 (.string ByteArray.empty) 1 16 Tryd.underlying81 HI.out.1 HI.out.2.1 HI.out.2.2.1 HI.out.2.2.2 rfl (by decide) _ k _ rfl (by exact ho2.alloc _) ⟨w2.heap.size, 0, none⟩ 1 1 [Value.string ⟨(hxw x).toArray⟩] rfl rfl (by exact cell_one_new _ _ _) (by simp [Value.oneCell']) (by unfold maxLen; omega) (by omega) (by simp; omega) ?_); intro v2 w3 hown3 hgrow hnil; refine Hid.out ?_)
      refine Lib.hid ?_
      have HY := Lib.hid (app_rel (ws := wds xs) hb3 HA.out v2 w3 (fun j hj => (ho2.lt j hj).1) hown3 hgrow)
      clear hown3 hgrow hnil ho2
      go_wp2
      go_roundw
      case rel => exact ⟨k + 1, by have := HWL.out; omega, by go_num, HY.out.1, HY.out.2⟩
      case measure => simp [Go.RowKit.intOf]; omega
    · obtain rfl : k = len := by omega
      rw [List.take_of_length_le (by have := HWL.out; omega)] at ho
      have e : (wds xs).length = k := HWL.out
      rcases ho.2 with ⟨-, h0⟩ | ⟨g, c, cur, rfl, hg, hgg, hkc, -, -, -⟩
      · omega
      have hj := Tryd.strings_Join g 0 c ((wds xs).map fun l => ⟨l.toArray⟩) ⟨#[44]⟩ wr (fun j x hx => by
        have hx' : (strs (wds xs))[j]? = some (.string x) := by
          unfold strs
          rw [List.getElem?_map] at hx ⊢
          cases hw : (wds xs)[j]? with
          | none => rw [hw] at hx; cases hx
          | some y => rw [hw] at hx; cases hx; rfl
        have := ho.cells (g := g) rfl j _ hx'
        rw [addr_add, ← Nat.zero_add j] at this
        exact this) (Array.getElem?_eq_some_iff.1 hgg).1 (by simp; omega) (by simp; omega) ?hlen
      case hlen =>
        have := jn_len (wds xs) k 17 HV.out
        rw [show k = (wds xs).length from e.symm, jn_all] at this
        rw [List.map_map]
        have e2 : (wds xs).map ((fun x : ByteArray => x.data.toList) ∘ fun l => ⟨l.toArray⟩) = wds xs := by
          rw [show ((fun x : ByteArray => x.data.toList) ∘ fun l => ⟨l.toArray⟩) = id from rfl, List.map_id]
        rw [e2]
        show (join (wds xs) [44]).length ≤ _
        omega
      rw [List.map_map, show ((fun x : ByteArray => x.data.toList) ∘ fun l => ⟨l.toArray⟩) = id from rfl, List.map_id] at hj
      simp only [List.length_map] at hj
      rw [e] at hj
      have HT : Hid (txt (wds xs) = join (wds xs) [44]) := by show _ = _; rw [txt_cons (by omega), jn_all]
      clear ho e
      go_wp2_with (go_at_call 74; refine hj.mono ?_; rintro e w4 ⟨rfl, hb4⟩)
      go_ret
      exact ⟨by rw [HT.out]; rfl, hb.trans (hb4.mono hb.size)⟩
theorem few_any (a : Option Addr) (len cap : Nat) (w : World) (hl : len ≤ 1048576) :
    Calls Tryd.prog 50 #[.slice a len cap] w fun e w' => e = .returned (.bool (decide (len ≤ 256))) ∧ w = w' := by
  go_enter Tryd.func50, Tryd.ntmps50
  go_wp2
  go_ret
  exact ⟨by simp; omega, rfl⟩
theorem isList_any (a : Option Addr) (len cap : Nat) (w : World) (hl : len ≤ 1048576) :
    Calls Tryd.prog 52 #[.slice a len cap] w fun e w' => e = .returned (.bool (decide (len ≤ 256))) ∧ w = w' := by
  go_enter Tryd.func52, Tryd.ntmps52
  go_wp2
  go_ret
  exact ⟨by simp; omega, rfl⟩
def ntPost (xs : List Nat) (w : World) (e : Ending) (w' : World) : Prop := e = .returned (.tuple #[.string ⟨(if xs.length ≤ 256 then txt (wds xs) else []).toArray⟩, .bool (decide (xs.length ≤ 256))]) ∧ Below w.heap.size w w'
theorem specNt_any (a : Option Addr) (len cap : Nat) (xs : List Nat) (w : World) (hr : IsRow mkF w a len cap xs) (hl : len ≤ 1048576) (hwf : ∀ z ∈ xs, (Lit.float .f32 z).wf = true) :
    Calls Tryd.prog 25 #[.slice a len cap] w (ntPost xs w) := by
  have hf := few_any a len cap w hl
  have hxl : xs.length = len := hr.1
  unfold ntPost
  rw [hxl]
  by_cases h : len ≤ 256
  · have hd := l01NText_any a len cap xs w hr h hwf
    rw [decide_eq_true h] at hf ⊢
    rw [if_pos h]
    clear hr hwf hxl
    go_enter Tryd.func25, Tryd.ntmps25
    go_wp2_with (first | (go_at_call 50; refine hf.mono ?_; rintro e w' ⟨rfl, rfl⟩) | (go_at_call 51; refine hd.mono ?_; rintro e w' ⟨rfl, hb⟩))
    go_ret2
    exact ⟨rfl, hb⟩
  · rw [decide_eq_false h] at hf ⊢
    rw [if_neg h]
    clear hr hwf hxl h
    go_enter Tryd.func25, Tryd.ntmps25
    go_wp2_with (go_at_call 50; refine hf.mono ?_; rintro e w' ⟨rfl, rfl⟩)
    go_ret2
    exact ⟨rfl, Below.refl _ _⟩
theorem implNt_any (a : Option Addr) (len cap : Nat) (xs : List Nat) (w : World) (hr : IsRow mkF w a len cap xs) (hl : len ≤ 1048576) (hwf : ∀ z ∈ xs, (Lit.float .f32 z).wf = true) (hp : Db w) :
    Calls Tryd.prog 27 #[.slice a len cap] w (ntPost xs w) := by
  have hf := isList_any a len cap w hl
  have hxl : xs.length = len := hr.1
  unfold ntPost
  rw [hxl]
  by_cases h : len ≤ 256
  · have hd := joinF_any a len cap xs w hr h hwf hp
    rw [decide_eq_true h] at hf ⊢
    rw [if_pos h]
    clear hr hwf hxl hp
    go_enter Tryd.func27, Tryd.ntmps27
    go_wp2_with (first | (go_at_call 52; refine hf.mono ?_; rintro e w' ⟨rfl, rfl⟩) | (go_at_call 53; refine hd.mono ?_; rintro e w' ⟨rfl, hb⟩))
    go_ret2
    exact ⟨rfl, hb⟩
  · rw [decide_eq_false h] at hf ⊢
    rw [if_neg h]
    clear hr hwf hxl h hp
    go_enter Tryd.func27, Tryd.ntmps27
    go_wp2_with (go_at_call 52; refine hf.mono ?_; rintro e w' ⟨rfl, rfl⟩)
    go_ret2
    exact ⟨rfl, Below.refl _ _⟩
theorem bel_drewN {B : Nat} {a w : World} (h : Below B a w) (n : Nat) : Below B a (w.drewN n) := ⟨h.os, h.tape, h.output, h.size, h.block⟩
set_option maxHeartbeats 2000000 in
theorem fnExactNumbersText_walk (a : Option Addr) (len cap : Nat) (xs : List Nat) (w : World) (hr : IsRow mkF w a len cap xs) (hwf : ∀ z ∈ xs, (Lit.float .f32 z).wf = true) (hL : laidMet Tryd.prog Rows.fnExactNumbersTextRow.laid w) :
    Calls Tryd.prog 8 #[.slice a len cap] w fun e w' => e = .returned (.bool true) ∧ Below w.heap.size w w' := by
  have HP := Lib.hid (db_nt hL)
  have hcap : cap ≤ maxLen := hr.2.2.1
  have hlc : len ≤ cap := hr.2.1
  unfold maxLen at hcap
  clear hL
  by_cases hl : len ≤ 1048576
  · have HT : Hid (∀ W, Below w.heap.size w W → Calls Tryd.prog 26 #[.slice a len cap] W fun e w' => e = .returned (.slice (some ⟨W.heap.size, 0, none⟩) len len) ∧
      w'.ownsRow W.heap.size 60 1 (.slice (some ⟨W.heap.size, 0, none⟩) len len) len (xs.map mkF) ∧ Below W.heap.size W w') := fun W hb => toF_any a len cap xs W (row_below hr hb) hl
    obtain ⟨T, hT⟩ : ∃ T : ByteArray, T = ⟨(if xs.length ≤ 256 then txt (wds xs) else []).toArray⟩ := ⟨_, rfl⟩
    obtain ⟨B, hB⟩ : ∃ B, B = decide (xs.length ≤ 256) := ⟨_, rfl⟩
    have HS : Hid (∀ (a : Option Addr) (cap : Nat) (W : World), IsRow mkF W a len cap xs → Calls Tryd.prog 25 #[.slice a len cap] W fun e w' => e = .returned (.tuple #[.string T, .bool B]) ∧ Below W.heap.size W w') := fun a cap W h => by
      subst hT; subst hB; exact specNt_any a len cap xs W h hl hwf
    have HM : Hid (∀ (a : Option Addr) (cap : Nat) (W : World), Db W → IsRow mkF W a len cap xs → Calls Tryd.prog 27 #[.slice a len cap] W fun e w' => e = .returned (.tuple #[.string T, .bool B]) ∧ Below W.heap.size W w') := fun a cap W hP h => by
      subst hT; subst hB; exact implNt_any a len cap xs W h hl hwf hP
    clear hr hT hB hwf
    go_enter Tryd.func8, Tryd.ntmps8
    go_wp2_with (go_at_call 26; refine (HT.out _ (Below.refl _ _)).mono ?_; rintro e w1 ⟨rfl, ho1, hb1⟩; refine Hid.out ?_)
    refine Lib.hid ?_
    have hr1 := (row_of_own ho1).2
    go_wp2_with (go_at_call 25; refine (HS.out _ _ _ hr1).mono ?_; rintro e w2 ⟨rfl, hb2⟩; refine Hid.out ?_)
    refine Lib.hid ?_
    have hB2 := hb1.trans (hb2.mono hb1.size)
    clear ho1 hr1
    go_wp2_with (go_at_call 26; refine (HT.out _ hB2).mono ?_; rintro e w3 ⟨rfl, ho3, hb3⟩; refine Hid.out ?_)
    refine Lib.hid ?_
    have hB3 := hB2.trans (hb3.mono hB2.size)
    have hr3 := (row_of_own ho3).2
    go_wp2_with (go_at_call 27; refine (HM.out _ _ _ (HP.out.below hB3) hr3).mono ?_; rintro e w4 ⟨rfl, hb4⟩; refine Hid.out ?_)
    refine Lib.hid ?_
    have hB4 := hB3.trans (hb4.mono hB3.size)
    have hr4 := row_below hr3 hb4
    clear ho3 hr3
    go_wp2_with (go_at_call 26; refine (HT.out _ hB4).mono ?_; rintro e w5 ⟨rfl, ho5, hb5⟩; refine Hid.out ?_)
    refine Lib.hid ?_
    have hB5 := hB4.trans (hb5.mono hB4.size)
    have hr5 := (row_of_own ho5).2
    have hr6 := row_below hr4 hb5
    clear ho5 hr4
    go_wp2_with (go_at_call 28; refine (eqF_any _ _ _ _ _ _ _ _ _ hr6 hr5 rfl hl).mono ?_; rintro e w6 ⟨rfl, n, rfl⟩)
    go_ret
    exact ⟨rfl, bel_drewN hB5 _⟩
  · have hl' : 1048576 < len := by omega
    clear hr hl hwf
    go_enter Tryd.func8, Tryd.ntmps8
    go_wp2_with fail
    go_ret
    exact ⟨rfl, Below.refl _ _⟩
end Go.Proofs.YtcbfefamemidnaaDoor

