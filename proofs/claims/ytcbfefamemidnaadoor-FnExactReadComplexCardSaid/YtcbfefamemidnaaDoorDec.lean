/-
  The decimal text of a number: the reference's loop.
-/
import Derived.Test.YtcbfefamemidnaaDoorRow
import Derived.Test.YtcbfefamemidnaaDoorDcT
import Derived.Lib.Hide
import Derived.Lib.Slices
import Derived.Lib.BufferWrite
import Derived.Laws.IdiomStrings
import Derived.OwnWalk
import Derived.WalkKit
import Derived.BigCall
import Derived.ProofKit
import Derived.OpenShut
import Derived.Below
namespace Go.Proofs.YtcbfefamemidnaaDoor
open Go.RowKit Go.Lib
set_option linter.unusedVariables false
set_option linter.unusedSimpArgs false

theorem info_u8 : (Tryd.prog.info? 5).map (fun i => (i.zero, i.size, i.bytes)) = some (some (.int .u8 0), 1, 1) := by kernel_rfl
def lenS : Value → Nat
  | .slice _ l _ => l
  | _ => 0
theorem suf_cell (m k : Nat) : [Value.int .u8 (48 + ((m / 10 ^ k : Nat) : Int) % 10)] ++ byteCells (suf m k) = byteCells (suf m (k + 1)) := by
  have := dg_nat m k
  simp [byteCells, suf, this]
theorem nd_20 {m : Nat} (h : m ≤ 9223372036854775808) : nDigits m ≤ 20 := nd_le 20 m (by decide) (by omega)

theorem byteCells_at (l : List UInt8) (j : Nat) (hj : j < l.length) : (byteCells l)[j]? = some (.int .u8 (l[j].toNat : Int)) := by simp [byteCells, hj]
theorem new_cell (w : World) (o : Obj) : (w.alloc o).heap[w.heap.size]? = some o := by unfold World.alloc; simp
theorem own_some (w : World) (B e : Nat) (xs : Array Value) (hB : B ≤ w.heap.size) (hx : xs.size ≤ maxLen) : (w.alloc (.cells xs e (0, 0))).ownsRow B e 1 (.slice (some ⟨w.heap.size, 0, none⟩) xs.size xs.size) xs.size xs.toList :=
  ⟨by simp, .inr ⟨w.heap.size, xs.size, xs, rfl, hB, new_cell _ _, Nat.le_refl _, hx, by simp, by rw [Nat.mul_one]; exact List.take_of_length_le (by simp)⟩⟩

def strPost (l : List UInt8) (w : World) (e : Ending) (w' : World) : Prop := e = .returned (.string ⟨l.toArray⟩) ∧ Below w.heap.size w w'
def decRel (m : Nat) (w : World) (u r : Value) (wr : World) : Prop := ∃ (k g cap : Nat), k ≤ nDigits m ∧ r = .int .i64 ((m / 10 ^ k : Nat) : Int) ∧ u = .slice (some ⟨g, 0, none⟩) k cap ∧ wr.ownsRow w.heap.size 5 1 (.slice (some ⟨g, 0, none⟩) k cap) k (byteCells (suf m k)) ∧ Below w.heap.size w wr
def decRelN (m : Nat) (w : World) (u r : Value) (wr : World) : Prop := ∃ (k g cap : Nat), k ≤ nDigits m ∧ r = .int .i64 (-((m / 10 ^ k : Nat) : Int)) ∧ u = .slice (some ⟨g, 0, none⟩) k cap ∧ wr.ownsRow w.heap.size 5 1 (.slice (some ⟨g, 0, none⟩) k cap) k (byteCells (suf m k)) ∧ Below w.heap.size w wr
def decMea (m : Nat) (u : Value) : Nat := nDigits m - lenS u
set_option maxHeartbeats 2000000 in
theorem l01Dec_pos (m : Nat) (w : World) (hm : (m : Int) ≤ 9223372036854775807) :
    Calls Tryd.prog 38 #[.int .i64 (m : Int)] w (strPost (decDigits m) w) := by
  obtain ⟨i0, hi, hz0, hz1, hz2⟩ := info_parts info_u8
  have h20 := nd_20 (m := m) (by omega)
  have HM := Lib.hid hm
  have HI := Lib.hid (And.intro hi (And.intro hz0 (And.intro hz1 hz2)))
  clear hm hi hz0 hz1 hz2
  go_enter Tryd.func38, Tryd.ntmps38
  go_wp2
  go_loopw [3, 4] (fun u r wr => decRel m w u r wr) (fun u _ _ => decMea m u)
  case atStart =>
    refine ⟨0, w.heap.size, 0, Nat.zero_le _, by simp, rfl, own_some w _ _ #[] (Nat.le_refl _) (Nat.zero_le _), (Below.refl _ _).alloc (Nat.le_refl _) _⟩
  case round =>
    obtain ⟨k, g, cap, hk, rfl, rfl, ho, hb⟩ := hrel
    have hsz := hb.size
    by_cases hc : k = 0 ∨ m / 10 ^ k ≠ 0
    · have hlt := nd_more hc
      have hcell := suf_cell m k
      have hrest := rest_succ m k
      have hle : ((m / 10 ^ k : Nat) : Int) ≤ 9223372036854775807 := by have hm := HM.out; have := Nat.div_le_self m (10 ^ k); omega
      obtain ⟨q, hq⟩ : ∃ q, q = m / 10 ^ k := ⟨_, rfl⟩
      rw [← hq] at hc hcell hrest hle ⊢
      have HR : Hid (q / 10 = m / 10 ^ (k + 1)) := hrest
      have HC : Hid ([Value.int .u8 (48 + (q : Int) % 10)] ++ byteCells (suf m k) = byteCells (suf m (k + 1))) := hcell
      clear hrest hcell hq
      have HN := Lib.hid (((ho.alloc (.cells #[Value.int .u8 (48 + (q : Int) % 10)] 5)).cells (g := g) rfl))
      have hd0 : 0 ≤ (q : Int) % 10 := by omega
      have hd1 : (q : Int) % 10 < 10 := by omega
      rcases Nat.eq_zero_or_pos k with h0 | h0
      · subst h0
        go_wp2_with (at_builtin; go_loud (refine wpList_append_own _ rfl (.tmp 24) (.tmp 25) 72 rfl w.heap.size 5 i0 (.int .u8 0) 1 1 Tryd.underlying72 HI.out.1 HI.out.2.1 HI.out.2.2.1 HI.out.2.2.2 rfl (by decide) _ 1 [Value.int .u8 (48 + (q : Int) % 10)] rfl (by exact own_some wr _ _ #[_] hsz (by simp [maxLen])) ⟨g, 0, none⟩ 0 cap (byteCells (suf m 0)) rfl (by simp [suf_len, byteCells]) HN.out (byteCells_one _) (by unfold maxLen; omega) (by omega) (by simp; omega) ?_); intro v2 w2 hown2 hgrow hnil; refine Hid.out ?_)
        refine Lib.hid ?_
        rw [HC.out] at hown2
        have hb2 : Below w.heap.size w w2 := (hb.alloc hsz _).grown hgrow (by simp; omega) (fun j hj => by have hj := Option.some.inj (show some wr.heap.size = some j from hj); omega)
        rcases hown2.2 with ⟨-, h0⟩ | ⟨g2, cap2, cur2, rfl, -, -, -, -, -, -⟩
        · omega
        · have HQ : Hid (((q : Int) / 10) = ((q / 10 : Nat) : Int)) := by show _ = _; omega
          have HO := Lib.hid hown2
          clear hown2 hgrow hnil ho
          go_wp2
          go_roundw
          case rel => exact ⟨0 + 1, g2, cap2, by omega, by rw [← HR.out, ← HQ.out], rfl, HO.out, hb2⟩
          case measure => simp [decMea, lenS]; omega
      · have hne : ((k : Int) == 0) = false := by simp; omega
        have hq0 : q ≠ 0 := by rcases hc with h | h <;> omega
        have hqn : ((q : Int) != 0) = true := by simp; omega
        go_wp2_with (at_builtin; go_loud (refine wpList_append_own _ rfl (.tmp 24) (.tmp 25) 72 rfl w.heap.size 5 i0 (.int .u8 0) 1 1 Tryd.underlying72 HI.out.1 HI.out.2.1 HI.out.2.2.1 HI.out.2.2.2 rfl (by decide) _ 1 [Value.int .u8 (48 + (q : Int) % 10)] rfl (by exact own_some wr _ _ #[_] hsz (by simp [maxLen])) ⟨g, 0, none⟩ k cap (byteCells (suf m k)) rfl (by simp [suf_len, byteCells]) HN.out (byteCells_one _) (by unfold maxLen; omega) (by omega) (by simp; omega) ?_); intro v2 w2 hown2 hgrow hnil; refine Hid.out ?_)
        refine Lib.hid ?_
        rw [HC.out] at hown2
        have hb2 : Below w.heap.size w w2 := (hb.alloc hsz _).grown hgrow (by simp; omega) (fun j hj => by have hj := Option.some.inj (show some wr.heap.size = some j from hj); omega)
        rcases hown2.2 with ⟨-, h0⟩ | ⟨g2, cap2, cur2, rfl, -, -, -, -, -, -⟩
        · omega
        · have HQ : Hid (((q : Int) / 10) = ((q / 10 : Nat) : Int)) := by show _ = _; omega
          have HO := Lib.hid hown2
          clear hown2 hgrow hnil ho
          go_wp2
          go_roundw
          case rel => exact ⟨k + 1, g2, cap2, by omega, by rw [← HR.out, ← HQ.out], by rw [Nat.add_comm 1 k], by have h := HO.out; rwa [Nat.add_comm 1 k] at h, hb2⟩
          case measure => simp [decMea, lenS]; omega
    · obtain ⟨hk0, hq0⟩ := not_or.1 hc
      have hq1 : m / 10 ^ k = 0 := Decidable.not_not.1 hq0
      obtain rfl : k = nDigits m := by have := nd_done hk0 hq1; omega
      rw [suf_all] at ho
      rw [hq1, Int.natCast_zero]
      have hpos := nDigits_pos m
      have hne : ((nDigits m : Int) == 0) = false := by simp; omega
      have hcv := run_convert_bytes_back (P := Tryd.prog) wr 72 9 5 ⟨g, 0, none⟩ cap (decDigits m) Tryd.underlying72 Tryd.underlying5 Tryd.underlying9 (fun j hj => ho.cells (g := g) rfl j _ (byteCells_at _ j hj))
      rw [decDigits_length] at hcv
      have HB := Lib.hid hb
      clear ho hb hk hk0 hq0 hq1 hc hpos h20
      generalize nDigits m = N at *
      obtain ⟨l, hl⟩ : ∃ l, l = decDigits m := ⟨_, rfl⟩
      rw [← hl] at hcv
      have HL := Lib.hid hl
      clear hl
      have hm0 : decide ((m : Int) < 0) = false := decide_eq_false (by omega)
      go_wp2
      go_ret
      exact ⟨by rw [HL.out]; rfl, HB.out⟩
set_option maxHeartbeats 2000000 in
theorem l01Dec_neg (m : Nat) (n : Int) (w : World) (hn : n = -(m : Int)) (h1 : 1 ≤ m) (hm : (m : Int) ≤ 9223372036854775808) :
    Calls Tryd.prog 38 #[.int .i64 n] w (strPost (45 :: decDigits m) w) := by
  obtain ⟨i0, hi, hz0, hz1, hz2⟩ := info_parts info_u8
  have h20 := nd_20 (m := m) (by omega)
  have HM := Lib.hid hm
  have HI := Lib.hid (And.intro hi (And.intro hz0 (And.intro hz1 hz2)))
  have hn0 : decide (n < 0) = true := decide_eq_true (by omega)
  have HNN := Lib.hid hn
  clear hm hi hz0 hz1 hz2 h1 hn
  go_enter Tryd.func38, Tryd.ntmps38
  go_wp2
  go_loopw [3, 4] (fun u r wr => decRelN m w u r wr) (fun u _ _ => decMea m u)
  case atStart =>
    refine ⟨0, w.heap.size, 0, Nat.zero_le _, by rw [HNN.out]; simp, rfl, own_some w _ _ #[] (Nat.le_refl _) (Nat.zero_le _), (Below.refl _ _).alloc (Nat.le_refl _) _⟩
  case round =>
    obtain ⟨k, g, cap, hk, rfl, rfl, ho, hb⟩ := hrel
    have hsz := hb.size
    by_cases hc : k = 0 ∨ m / 10 ^ k ≠ 0
    · have hlt := nd_more hc
      have hcell := suf_cell m k
      have hrest := rest_succ m k
      have hle : ((m / 10 ^ k : Nat) : Int) ≤ 9223372036854775808 := by have hm := HM.out; have := Nat.div_le_self m (10 ^ k); omega
      obtain ⟨q, hq⟩ : ∃ q, q = m / 10 ^ k := ⟨_, rfl⟩
      rw [← hq] at hc hcell hrest hle ⊢
      obtain ⟨r, hr⟩ : ∃ r : Int, r = -(q : Int) := ⟨_, rfl⟩
      obtain ⟨d, hd⟩ : ∃ d : Nat, d = q % 10 := ⟨_, rfl⟩
      obtain ⟨r2, hr2⟩ : ∃ r2 : Int, r2 = -((q / 10 : Nat) : Int) := ⟨_, rfl⟩
      rw [show (q : Int) % 10 = (d : Int) by omega] at hcell
      rw [← hr]
      have HR : Hid (r2 = -((m / 10 ^ (k + 1) : Nat) : Int)) := by show _ = _; rw [hr2, hrest]
      have HC : Hid ([Value.int .u8 (48 + (d : Int))] ++ byteCells (suf m k) = byteCells (suf m (k + 1))) := hcell
      have hd10 : d < 10 := by omega
      have e1 : r.tmod 10 = -(d : Int) := by rw [hr, Int.neg_tmod, Int.tmod_eq_emod_of_nonneg (by omega)]; omega
      have e2 : IntKind.i64.wrap (r.tdiv 10) = r2 := by rw [hr, Int.neg_tdiv, Int.tdiv_eq_ediv_of_nonneg (by omega), IntWalk.i64_in _ (by omega)]; omega
      have hrb : -9223372036854775808 ≤ r ∧ r ≤ 0 := by omega
      have hr0 : k ≠ 0 → (r != 0) = true := fun h => by
        have : q ≠ 0 := by rcases hc with h | h <;> omega
        simp; omega
      have HR0 := Lib.hid hr0
      clear hrest hcell hq hr2 hr hd hc hle hr0
      have HN := Lib.hid (((ho.alloc (.cells #[Value.int .u8 (48 + (d : Int))] 5)).cells (g := g) rfl))
      rcases Nat.eq_zero_or_pos d with hd0 | hd0
      · subst hd0
        rw [show -((0 : Nat) : Int) = 0 by rfl] at e1
        simp only [Int.natCast_zero, Int.add_zero] at HC HN
        rcases Nat.eq_zero_or_pos k with h0 | h0
        · subst h0
          go_wp2_with (at_builtin; go_loud (refine wpList_append_own _ rfl (.tmp 24) (.tmp 25) 72 rfl w.heap.size 5 i0 (.int .u8 0) 1 1 Tryd.underlying72 HI.out.1 HI.out.2.1 HI.out.2.2.1 HI.out.2.2.2 rfl (by decide) _ 1 [Value.int .u8 (48)] rfl (by exact own_some wr _ _ #[_] hsz (by simp [maxLen])) ⟨g, 0, none⟩ 0 cap (byteCells (suf m 0)) rfl (by simp [suf_len, byteCells]) HN.out (byteCells_one _) (by unfold maxLen; omega) (by omega) (by simp; omega) ?_); intro v2 w2 hown2 hgrow hnil; refine Hid.out ?_)
          refine Lib.hid ?_
          rw [HC.out] at hown2
          have hb2 : Below w.heap.size w w2 := (hb.alloc hsz _).grown hgrow (by simp; omega) (fun j hj => by have hj := Option.some.inj (show some wr.heap.size = some j from hj); omega)
          rcases hown2.2 with ⟨-, h0⟩ | ⟨g2, cap2, cur2, rfl, -, -, -, -, -, -⟩
          · omega
          · have HO := Lib.hid hown2
            clear hown2 hgrow hnil ho
            go_wp2
            go_roundw
            case rel => exact ⟨0 + 1, g2, cap2, by omega, by rw [← HR.out], rfl, HO.out, hb2⟩
            case measure => simp [decMea, lenS]; omega
        · have hne : ((k : Int) == 0) = false := by simp; omega
          have hqn : (r != 0) = true := HR0.out (by omega)
          go_wp2_with (at_builtin; go_loud (refine wpList_append_own _ rfl (.tmp 24) (.tmp 25) 72 rfl w.heap.size 5 i0 (.int .u8 0) 1 1 Tryd.underlying72 HI.out.1 HI.out.2.1 HI.out.2.2.1 HI.out.2.2.2 rfl (by decide) _ 1 [Value.int .u8 (48)] rfl (by exact own_some wr _ _ #[_] hsz (by simp [maxLen])) ⟨g, 0, none⟩ k cap (byteCells (suf m k)) rfl (by simp [suf_len, byteCells]) HN.out (byteCells_one _) (by unfold maxLen; omega) (by omega) (by simp; omega) ?_); intro v2 w2 hown2 hgrow hnil; refine Hid.out ?_)
          refine Lib.hid ?_
          rw [HC.out] at hown2
          have hb2 : Below w.heap.size w w2 := (hb.alloc hsz _).grown hgrow (by simp; omega) (fun j hj => by have hj := Option.some.inj (show some wr.heap.size = some j from hj); omega)
          rcases hown2.2 with ⟨-, h0⟩ | ⟨g2, cap2, cur2, rfl, -, -, -, -, -, -⟩
          · omega
          · have HO := Lib.hid hown2
            clear hown2 hgrow hnil ho
            go_wp2
            go_roundw
            case rel => exact ⟨k + 1, g2, cap2, by omega, by rw [← HR.out], by rw [Nat.add_comm 1 k], by have h := HO.out; rwa [Nat.add_comm 1 k] at h, hb2⟩
            case measure => simp [decMea, lenS]; omega
      · have hdn : decide (-(d : Int) < 0) = true := decide_eq_true (by omega)
        rcases Nat.eq_zero_or_pos k with h0 | h0
        · subst h0
          go_wp2_with (at_builtin; go_loud (refine wpList_append_own _ rfl (.tmp 24) (.tmp 25) 72 rfl w.heap.size 5 i0 (.int .u8 0) 1 1 Tryd.underlying72 HI.out.1 HI.out.2.1 HI.out.2.2.1 HI.out.2.2.2 rfl (by decide) _ 1 [Value.int .u8 (48 + (d : Int))] rfl (by exact own_some wr _ _ #[_] hsz (by simp [maxLen])) ⟨g, 0, none⟩ 0 cap (byteCells (suf m 0)) rfl (by simp [suf_len, byteCells]) HN.out (byteCells_one _) (by unfold maxLen; omega) (by omega) (by simp; omega) ?_); intro v2 w2 hown2 hgrow hnil; refine Hid.out ?_)
          refine Lib.hid ?_
          rw [HC.out] at hown2
          have hb2 : Below w.heap.size w w2 := (hb.alloc hsz _).grown hgrow (by simp; omega) (fun j hj => by have hj := Option.some.inj (show some wr.heap.size = some j from hj); omega)
          rcases hown2.2 with ⟨-, h0⟩ | ⟨g2, cap2, cur2, rfl, -, -, -, -, -, -⟩
          · omega
          · have HO := Lib.hid hown2
            clear hown2 hgrow hnil ho
            go_wp2
            go_roundw
            case rel => exact ⟨0 + 1, g2, cap2, by omega, by rw [← HR.out], rfl, HO.out, hb2⟩
            case measure => simp [decMea, lenS]; omega
        · have hne : ((k : Int) == 0) = false := by simp; omega
          have hqn : (r != 0) = true := HR0.out (by omega)
          go_wp2_with (at_builtin; go_loud (refine wpList_append_own _ rfl (.tmp 24) (.tmp 25) 72 rfl w.heap.size 5 i0 (.int .u8 0) 1 1 Tryd.underlying72 HI.out.1 HI.out.2.1 HI.out.2.2.1 HI.out.2.2.2 rfl (by decide) _ 1 [Value.int .u8 (48 + (d : Int))] rfl (by exact own_some wr _ _ #[_] hsz (by simp [maxLen])) ⟨g, 0, none⟩ k cap (byteCells (suf m k)) rfl (by simp [suf_len, byteCells]) HN.out (byteCells_one _) (by unfold maxLen; omega) (by omega) (by simp; omega) ?_); intro v2 w2 hown2 hgrow hnil; refine Hid.out ?_)
          refine Lib.hid ?_
          rw [HC.out] at hown2
          have hb2 : Below w.heap.size w w2 := (hb.alloc hsz _).grown hgrow (by simp; omega) (fun j hj => by have hj := Option.some.inj (show some wr.heap.size = some j from hj); omega)
          rcases hown2.2 with ⟨-, h0⟩ | ⟨g2, cap2, cur2, rfl, -, -, -, -, -, -⟩
          · omega
          · have HO := Lib.hid hown2
            clear hown2 hgrow hnil ho
            go_wp2
            go_roundw
            case rel => exact ⟨k + 1, g2, cap2, by omega, by rw [← HR.out], by rw [Nat.add_comm 1 k], by have h := HO.out; rwa [Nat.add_comm 1 k] at h, hb2⟩
            case measure => simp [decMea, lenS]; omega
    · obtain ⟨hk0, hq0⟩ := not_or.1 hc
      have hq1 : m / 10 ^ k = 0 := Decidable.not_not.1 hq0
      obtain rfl : k = nDigits m := by have := nd_done hk0 hq1; omega
      rw [suf_all] at ho
      rw [hq1, Int.natCast_zero, Int.neg_zero]
      have hpos := nDigits_pos m
      have hne : ((nDigits m : Int) == 0) = false := by simp; omega
      have HN := Lib.hid (((ho.alloc (.cells #[Value.int .u8 45] 5)).cells (g := g) rfl))
      have hlen := decDigits_length m
      clear hk hk0 hq0 hq1 hc
      generalize nDigits m = N at *
      obtain ⟨l, hl⟩ : ∃ l, l = decDigits m := ⟨_, rfl⟩
      rw [← hl] at HN hlen ho
      have HL := Lib.hid hl
      have HLL := Lib.hid hlen
      clear hl hlen
      go_wp2_with (at_builtin; go_loud (refine wpList_append_own _ rfl (.tmp 31) (.tmp 32) 72 rfl w.heap.size 5 i0 (.int .u8 0) 1 1 Tryd.underlying72 HI.out.1 HI.out.2.1 HI.out.2.2.1 HI.out.2.2.2 rfl (by decide) _ 1 [Value.int .u8 45] rfl (by exact own_some wr _ _ #[_] hsz (by simp [maxLen])) ⟨g, 0, none⟩ N cap (byteCells l) rfl (by rw [byteCells_length, HLL.out, Nat.mul_one]) HN.out (byteCells_one _) (by unfold maxLen; omega) (by omega) (by simp; omega) ?_); intro v2 w2 hown2 hgrow hnil; refine Hid.out ?_)
      refine Lib.hid ?_
      have hb2 : Below w.heap.size w w2 := (hb.alloc hsz _).grown hgrow (by simp; omega) (fun j hj => by have hj := Option.some.inj (show some wr.heap.size = some j from hj); omega)
      have hsnoc : [Value.int .u8 45] ++ byteCells l = byteCells (45 :: l) := rfl
      rw [hsnoc] at hown2
      rcases hown2.2 with ⟨-, h0⟩ | ⟨g2, cap2, cur2, rfl, -, -, -, -, -, -⟩
      · omega
      · have hcv := run_convert_bytes_back (P := Tryd.prog) w2 72 9 5 ⟨g2, 0, none⟩ cap2 (45 :: l) Tryd.underlying72 Tryd.underlying5 Tryd.underlying9 (fun j hj => hown2.cells (g := g2) rfl j _ (byteCells_at _ j hj))
        rw [List.length_cons, HLL.out, Nat.add_comm N 1] at hcv
        obtain ⟨l2, hl2⟩ : ∃ l2, l2 = 45 :: l := ⟨_, rfl⟩
        rw [← hl2] at hcv
        have HL2 := Lib.hid hl2
        have HB := Lib.hid hb2
        clear ho hb hb2 hown2 hgrow hnil hl2 hpos h20 hsnoc
        go_wp2
        go_ret
        exact ⟨by rw [HL2.out, HL.out]; rfl, HB.out⟩
theorem l01Dec_any (n : Int) (w : World) (h0 : -9223372036854775808 ≤ n) (h1 : n ≤ 9223372036854775807) :
    Calls Tryd.prog 38 #[.int .i64 n] w (strPost (itoa n) w) := by
  unfold itoa
  by_cases h : n < 0
  · rw [if_pos h]
    exact l01Dec_neg n.natAbs n w (by omega) (by omega) (by omega)
  · rw [if_neg h]
    have e : n = ((n.toNat : Nat) : Int) := by omega
    have := l01Dec_pos n.toNat w (by omega)
    rwa [← e] at this
end Go.Proofs.YtcbfefamemidnaaDoor
