/-
  Lists read from texts: the program's side, and what both sides say.
-/
import Derived.Test.YtcbfefamemidnaaDoorCs
import Derived.Test.YtcbfefamemidnaaDoorCd
import Derived.Test.YtcbfefamemidnaaDoorEnv
import Derived.Test.YtcbfefamemidnaaDoorCu
import Derived.Test.YtcbfefamemidnaaDoorShS
namespace Go.Proofs.YtcbfefamemidnaaDoor
open Go.RowKit Go.Lib
set_option linter.unusedVariables false
set_option linter.unusedSimpArgs false

theorem info_el : (Tryd.prog.info? 68).map (fun i => (i.zero, i.size, i.bytes)) = some (some (.complex .f32 0 0), 1, 8) := by kernel_rfl
def noneL : List UInt8 := [110, 111, 110, 101]
/-- Whether a text is that of a list; the list. -/
def rlB (l : List UInt8) : Bool := decide (l = noneL) || (decide ((cut l).length ≤ 256) && (cut l).all cdB)
def rlX (l : List UInt8) : List (Nat × Nat) := if l = noneL then [] else if rlB l then (cut l).map cdN else []
theorem rl_none {l : List UInt8} (h : l = noneL) : rlB l = true ∧ rlX l = [] := by unfold rlB rlX; rw [h]; exact ⟨rfl, rfl⟩
theorem rl_long {l : List UInt8} (h : ¬ l = noneL) (h2 : ¬ (cut l).length ≤ 256) : rlB l = false ∧ rlX l = [] := by
  have e : rlB l = false := by unfold rlB; rw [decide_eq_false h, decide_eq_false h2]; rfl
  exact ⟨e, by unfold rlX; rw [if_neg h, e]; rfl⟩
theorem rl_bad {l : List UInt8} (h : ¬ l = noneL) {k : Nat} (hk : k < (cut l).length) (h2 : cdB (cut l)[k] = false) : rlB l = false ∧ rlX l = [] := by
  have e2 : (cut l).all cdB = false := by
    cases ha : (cut l).all cdB
    · rfl
    · have := List.all_eq_true.1 ha _ (List.getElem_mem hk)
      rw [h2] at this
      cases this
  have e : rlB l = false := by unfold rlB; rw [decide_eq_false h, e2, Bool.and_false]; rfl
  exact ⟨e, by unfold rlX; rw [if_neg h, e]; rfl⟩
theorem rl_good {l : List UInt8} (h : ¬ l = noneL) (h2 : (cut l).length ≤ 256) (h3 : (cut l).all cdB = true) : rlB l = true ∧ rlX l = (cut l).map cdN := by
  have e : rlB l = true := by unfold rlB; rw [decide_eq_false h, decide_eq_true h2, h3]; rfl
  exact ⟨e, by unfold rlX; rw [if_neg h, e, if_pos rfl]⟩
theorem all_take {ws : List (List UInt8)} {k : Nat} (h : k < ws.length) : (ws.take (k + 1)).all cdB = ((ws.take k).all cdB && cdB ws[k]) := by
  rw [List.take_succ_eq_append_getElem h, List.all_append]
  simp
def vals (ws : List (List UInt8)) : List Value := (ws.map cdN).map mkC
theorem vals_take {ws : List (List UInt8)} {k : Nat} (h : k < ws.length) : vals (ws.take (k + 1)) = vals (ws.take k) ++ [mkC (cdN ws[k])] := by
  unfold vals
  rw [List.take_succ_eq_append_getElem h, List.map_append, List.map_append, List.map_cons, List.map_cons]
  rfl
def rlPost (l : List UInt8) (w : World) (e : Ending) (w' : World) : Prop := ∃ a c, e = .returned (.tuple #[.slice a (rlX l).length c, .bool (rlB l)]) ∧ w'.ownsRow w.heap.size 68 1 (.slice a (rlX l).length c) (rlX l).length ((rlX l).map mkC) ∧ Below w.heap.size w w'
theorem rl_end {l : List UInt8} {w w' : World} {X : List (Nat × Nat)} {B : Bool} (h : rlB l = B ∧ rlX l = X) {a : Option Addr} {n c : Nat} (hn : n = X.length) (ho : w'.ownsRow w.heap.size 68 1 (.slice a n c) n (X.map mkC)) (hb : Below w.heap.size w w') :
    rlPost l w (.returned (.tuple #[.slice a n c, .bool B])) w' := by
  subst hn
  obtain ⟨h1, h2⟩ := h
  subst h1 h2
  exact ⟨a, c, rfl, ho, hb⟩
theorem rl_nil {l : List UInt8} {w w' : World} {B : Bool} (h : rlB l = B ∧ rlX l = []) (hb : Below w.heap.size w w') : rlPost l w (.returned (.tuple #[.slice none 0 0, .bool B])) w' :=
  rl_end h rfl (World.ownsRow_nil _ _ _ _) hb
theorem len_own {w : World} {B e s n : Nat} {v : Value} {xs : List Value} (h : w.ownsRow B e s v n xs) : ∃ a c, v = .slice a n c := by
  rcases h.2 with ⟨rfl, rfl⟩ | ⟨g, cap, cur, rfl, _⟩
  · exact ⟨_, _, rfl⟩
  · exact ⟨_, _, rfl⟩
def rlRel (ws : List (List UInt8)) (p : Value) (w : World) (v i : Value) (wr : World) : Prop := ∃ k : Nat, k ≤ ws.length ∧ k ≤ 256 ∧ i = .int .i64 k ∧ (ws.take k).all cdB = true ∧
  wr.ownsRow w.heap.size 68 1 v k (vals (ws.take k)) ∧ wr.ownsRow 0 9 1 p ws.length (strs ws) ∧ Below w.heap.size w wr
theorem app_val {w w2 : World} {k : Nat} {xs : List Value} {x : Value} {n : Nat} {ss : List Value} {p v : Value} (hb : Below w.heap.size w w2) (hp : w2.ownsRow 0 9 1 p n ss) (hvo : w2.ownsRow w.heap.size 68 1 v k xs) (v2 : Value) (w3 : World)
    (hg : (w2.alloc (.cells #[x] 68)).grownBy w3 v.ownBlock) :
    w3.ownsRow 0 9 1 p n ss ∧ Below w.heap.size w w3 :=
  ⟨pw_grown (hp.alloc _) hg (pw_ne hp hvo (by decide)), (hb.alloc hb.size _).grown hg (by have := hb.size; simp; omega) (fun j hj => (hvo.lt j hj).1)⟩
theorem word_cell {wr : World} {p : Value} {ws : List (List UInt8)} {g c : Nat} (hp : p = .slice (some ⟨g, 0, none⟩) ws.length c) (h : wr.ownsRow 0 9 1 p ws.length (strs ws)) {k : Nat} (hk : k < ws.length) : wr.cell? ⟨g, k, none⟩ = some (.string ⟨ws[k].toArray⟩) := by
  subst hp
  have := h.cells (g := g) rfl k (.string ⟨ws[k].toArray⟩) (by unfold strs; rw [List.getElem?_map, List.getElem?_eq_getElem hk]; rfl)
  rwa [addr_at] at this
theorem cut_word {s : ByteArray} {k : Nat} (hk : k < (cut s.data.toList).length) : (cut s.data.toList)[k].length ≤ s.size := by
  have := cutF_mem s.data.toList [] _ (List.getElem_mem hk)
  simpa using this


set_option maxHeartbeats 2000000 in
theorem readTexts_any (s : ByteArray) (w : World) (hs : s.size ≤ 1048576) (hE : EnvF w) :
    Calls Tryd.prog 60 #[.string s, .int .i64 256, .func (.func 61) #[] #[]] w (rlPost s.data.toList w) := by
  obtain ⟨i0, hi, hz0, hz1, hz2⟩ := info_parts info_el
  have HI := Lib.hid (And.intro hi (And.intro hz0 (And.intro hz1 hz2)))
  clear hi hz0 hz1 hz2
  by_cases hnone : s.data.toList = noneL
  · have hse : s = ⟨#[110, 111, 110, 101]⟩ := Go.WideShapes.bytes_inj (by rw [hnone]; rfl)
    have HR := Lib.hid (rl_none hnone)
    clear hnone hE
    go_enter Tryd.func60, Tryd.ntmps60
    go_wp2
    go_ret2
    exact rl_nil HR.out (Below.refl _ _)
  · have hne : (s.toList == [110, 111, 110, 101]) = false := by rw [beq_eq_false_iff_ne, Go.ByteArray.toList_eq]; exact hnone
    obtain ⟨m, hm⟩ := hE.2.2
    have hsp := Tryd.strings_Split s ⟨#[44]⟩ m w (by omega) hm (by decide)
    have hcount : countB s ⟨#[44]⟩ + 1 = (cut s.data.toList).length := (splitB_cut s).2
    rw [split_strs, hcount] at hsp
    have hlen := cutF_le s.data.toList []
    have hpos := cut_pos s.data.toList []
    have HWD : Hid (∀ k (hk : k < (cut s.data.toList).length), ∀ W : World, EnvF W → Calls Tryd.prog 61 #[.string ⟨(cut s.data.toList)[k].toArray⟩] W (cdPost (cut s.data.toList)[k] W)) := fun k hk W hW => by
      have h2 := cut_word hk
      have := readComplex_any ⟨(cut s.data.toList)[k].toArray⟩ W (by show Array.size _ ≤ _; simp; omega) hW
      exact this
    have HN := Lib.hid hnone
    have HE := Lib.hid hE
    have HBAD : Hid (∀ k (hk : k < (cut s.data.toList).length), cdB (cut s.data.toList)[k] = false → rlB s.data.toList = false ∧ rlX s.data.toList = []) := fun k hk h => rl_bad hnone hk h
    have HLONG : Hid (¬ (cut s.data.toList).length ≤ 256 → rlB s.data.toList = false ∧ rlX s.data.toList = []) := rl_long hnone
    have HGOOD : Hid ((cut s.data.toList).length ≤ 256 → (cut s.data.toList).all cdB = true → rlB s.data.toList = true ∧ rlX s.data.toList = (cut s.data.toList).map cdN) := rl_good hnone
    have hl20 : (cut s.data.toList).length ≤ 1048577 := by have h : s.data.toList.length ≤ 1048576 := (by simpa using hs); unfold cut; omega
    have hl1 : 1 ≤ (cut s.data.toList).length := hpos
    clear hnone hE hm hcount hlen hpos
    obtain ⟨ws, hws⟩ : ∃ ws, ws = cut s.data.toList := ⟨_, rfl⟩
    rw [← hws] at hsp HWD HBAD HLONG HGOOD hl20 hl1
    clear hws
    obtain ⟨n, hn⟩ : ∃ n, n = ws.length := ⟨_, rfl⟩
    rw [← hn] at hsp hl20 hl1
    have HL := Lib.hid hn
    have hsp := hsp.mono fun e w1 ⟨he, hw1⟩ => (show e = Ending.returned (.slice (some ⟨w.heap.size, 0, none⟩) n n) ∧ w1.ownsRow 0 9 1 (.slice (some ⟨w.heap.size, 0, none⟩) n n) n (strs ws) ∧ Below w.heap.size w w1 from ⟨he, by rw [hw1, hn]; exact pw_made w ws (by omega), by rw [hw1]; exact (Below.refl _ _).alloc (Nat.le_refl _) _⟩)
    clear hn
    go_enter Tryd.func60, Tryd.ntmps60
    go_wp2_with (go_at_call 76; refine hsp.mono ?_; rintro e w1 ⟨rfl, ho1, hb1⟩; refine Hid.out ?_)
    refine Lib.hid ?_
    obtain ⟨p, hp⟩ : ∃ p, p = Value.slice (some ⟨w.heap.size, 0, none⟩) n n := ⟨_, rfl⟩
    have HP : Hid (p = Value.slice (some ⟨w.heap.size, 0, none⟩) ws.length n) := by show _ = _; rw [hp, ← HL.out]
    rw [← hp] at ho1
    clear hp
    go_wp2
    go_loopw [8, 18] (fun v i wr => rlRel ws p w v i wr) (fun _ i _ => n - (Go.RowKit.intOf i).toNat)
    case atStart => exact ⟨0, Nat.zero_le _, Nat.zero_le _, rfl, rfl, World.ownsRow_nil _ _ _ _, by rw [← HL.out]; exact ho1, hb1⟩
    case round =>
      obtain ⟨k, hk, hkM, rfl, ha, ho, hpo, hb⟩ := hrel
      have hk' : k ≤ n := by have := HL.out; omega
      have hsz := hb.size
      by_cases hlt : k < n
      · have hkw : k < ws.length := by have := HL.out; omega
        have hcx := word_cell HP.out hpo hkw
        have hcall := HWD.out k hkw
        have hbad := HBAD.out k hkw
        have hat := all_take hkw
        have hvt := vals_take hkw
        have HEr := Lib.hid (HE.out.below hb)
        rw [ha, Bool.true_and] at hat
        generalize ws[k] = x at *
        cases hB : cdB x
        · have HR := Lib.hid (hbad hB)
          have hc2 : ∀ W : World, EnvF W → Calls Tryd.prog 61 #[.string ⟨x.toArray⟩] W fun e w' => ∃ z, e = .returned (.tuple #[mkC z, .bool false]) ∧ Below W.heap.size W w' := fun W hW => (hcall W hW).mono fun e w' ⟨z, he, _, hb⟩ => ⟨z, by rw [he, hB], hb⟩
          have HC2 := Lib.hid hc2
          have HB' := Lib.hid hb
          clear hbad hB hat hvt ho hpo hcall ha hc2 hb
          go_wp2_with (go_at_call 61; refine (HC2.out _ HEr.out).mono ?_; rintro e w2 ⟨z, rfl, hb2⟩)
          go_ret2
          exact rl_nil HR.out (HB'.out.trans (hb2.mono hsz))
        · rw [hB] at hat
          have hc2 : ∀ W : World, EnvF W → Calls Tryd.prog 61 #[.string ⟨x.toArray⟩] W fun e w' => e = .returned (.tuple #[mkC (cdN x), .bool true]) ∧ Below W.heap.size W w' := fun W hW => (hcall W hW).mono fun e w' ⟨z, he, hz, hb⟩ => ⟨by rw [he, hB, hz hB], hb⟩
          have HC2 := Lib.hid hc2
          have HAT := Lib.hid hat
          have HVT := Lib.hid hvt
          have HB' := Lib.hid hb
          have HO := Lib.hid ho
          have HPO := Lib.hid hpo
          generalize cdN x = z at *
          by_cases hM : k = 256
          · have HR : Hid (rlB s.data.toList = false ∧ rlX s.data.toList = []) := HLONG.out (by have := HL.out; omega)
            rcases ho.2 with ⟨-, h0⟩ | ⟨g, c, cur, rfl, -, -, -, -, -, -⟩
            · omega
            subst hM
            clear hbad hB hat hvt ho hpo hcall ha hc2 hb HO
            go_wp2_with (go_at_call 61; refine (HC2.out _ HEr.out).mono ?_; rintro e w2 ⟨rfl, hb2⟩)
            go_ret2
            exact rl_nil HR.out (HB'.out.trans (hb2.mono hsz))
          · have hMne : ((k : Int) == 256) = false := by rw [beq_eq_false_iff_ne]; omega
            have hlen := len_own ho
            obtain ⟨av, cv, rfl⟩ := hlen
            clear hbad hB hat hvt hpo hcall ha hc2
            go_wp2_with (go_at_call 61; refine (HC2.out _ HEr.out).mono ?_; rintro e w2 ⟨rfl, hb2⟩; refine Hid.out ?_)
            refine Lib.hid ?_
            have hb3 := HB'.out.trans (hb2.mono hsz)
            have ho2 := pw_below HO.out hb2
            have hpo2 := pw_below HPO.out hb2
            clear ho hb
            go_wp2_with (at_builtin; go_loud (refine wpList_append_own _ rfl (.tmp 36) (.tmp 38) 44 rfl w.heap.size 68 i0 (.complex .f32 0 0) 1 8 Tryd.underlying44 HI.out.1 HI.out.2.1 HI.out.2.2.1 HI.out.2.2.2 rfl (by decide) _ k _ rfl (by exact ho2.alloc _) ⟨w2.heap.size, 0, none⟩ 1 1 [mkC z] rfl rfl (by exact cell_one_at _ _ _) (by simp [Value.oneCell']) (by unfold maxLen; omega) (by omega) (by have := hb3.size; simp; omega) ?_); intro v2 w3 hown3 hgrow hnil; refine Hid.out ?_)
            refine Lib.hid ?_
            have HY := Lib.hid (app_val hb3 hpo2 ho2 v2 w3 hgrow)
            have HO3 : Hid (w3.ownsRow w.heap.size 68 1 v2 (k + 1) (vals (ws.take (k + 1)))) := by show World.ownsRow _ _ _ _ _ _ _; rw [HVT.out]; exact hown3
            clear hown3 hgrow hnil ho2 hpo2
            go_wp2
            go_roundw
            case rel => exact ⟨k + 1, by have := HL.out; omega, by omega, by go_num, HAT.out, HO3.out, HY.out.1, HY.out.2⟩
            case measure => simp [Go.RowKit.intOf] <;> omega
      · obtain rfl : k = n := by omega
        have hkw : k = ws.length := HL.out
        rw [hkw, List.take_length] at ha ho
        have HR := Lib.hid (HGOOD.out (by omega) ha)
        obtain ⟨av, cv, rfl⟩ := len_own ho
        have HO := Lib.hid ho
        have HB' := Lib.hid hb
        have HKW := Lib.hid hkw
        clear ha ho hpo hb hkw
        go_wp2
        go_ret2
        exact rl_end HR.out (by simp) HO.out HB'.out
end Go.Proofs.YtcbfefamemidnaaDoor
