/-
  strconv's text of a number at base 16, walked: formatBits, FormatInt.
-/
import Derived.Test.YtcbfefamemidnaaDoorHs8
import Derived.Test.YtcbfefamemidnaaDoorLd
import Derived.Test.YtcbfefamemidnaaDoorShR
namespace Go.Proofs.YtcbfefamemidnaaDoor
open Go.RowKit Go.Lib
set_option linter.unusedVariables false
set_option linter.unusedSimpArgs false

/-- The one cell of the table that base 16 asks for. -/
def Db (w : World) : Prop := w.cell? ⟨7, 15, none⟩ = some (.int .u8 4)
theorem Db.below {w w' : World} (h : Db w) (hb : Below w.heap.size w w') : Db w' := by
  unfold Db at *
  rw [hb.cell (p := ⟨7, 15, none⟩) ?_]
  · exact h
  · unfold World.cell? at h
    split at h
    · rename_i c e f hg
      exact (Array.getElem?_eq_some_iff.1 hg).1
    · cases h
def zsOf : DataW Unit → List Int
  | .agg l => l.filterMap fun | .lit (.int _ z) => some z | _ => none
  | _ => []
abbrev dbName : String := (Rows.fnExactDecimalRow.named.drop 2).headD default
theorem db_data : (Rows.laid_math_bits_deBruijn64tab : DataW Unit) = tabData .u8 (zsOf Rows.laid_math_bits_deBruijn64tab) := by kernel_rfl
theorem gDb : Tryd.prog.globalNamed dbName = some 7 := by kernel_rfl
theorem gDbT : (Tryd.prog.globals[7]?).map (·.type) = some 157 := by kernel_rfl
theorem db_four : (zsOf Rows.laid_math_bits_deBruijn64tab).getD 15 0 = 4 := by kernel_rfl
theorem db_len : (zsOf Rows.laid_math_bits_deBruijn64tab).length = 64 := by kernel_rfl
theorem db_of_reads {W : World} (h : VarReads Tryd.prog W dbName Rows.laid_math_bits_deBruijn64tab) : Db W := by
  rw [db_data] at h
  have := TabIs.cell (tab_of_reads gDb gDbT Tryd.underlying157 Tryd.underlying5 (by kernel_rfl) (by kernel_rfl) h) gDb 15 (by rw [db_len]; decide)
  rw [db_four] at this
  exact this
set_option maxHeartbeats 1000000 in
theorem tz_any (w : World) (hd : Db w) : Calls Tryd.prog 110 #[.int .u64 16] w fun e w' => e = .returned (.int .i64 4) ∧ w = w' := by
  unfold Db at hd
  have e1 : bits .and .u64 16 (IntKind.u64.wrap (-16)) = 16 := by kernel_rfl
  have e2 : IntKind.u64.wrap (16 * 285870213051353865) / 288230376151711744 = 15 := by kernel_rfl
  go_enter Tryd.func110, Tryd.ntmps110
  go_wp2
  go_ret
  exact ⟨rfl, rfl⟩
theorem p2_any (w : World) : Calls Tryd.prog 109 #[.int .i64 16] w fun e w' => e = .returned (.bool true) ∧ w = w' := by
  have e16 : bits .and .i64 16 15 = 0 := by kernel_rfl
  go_enter Tryd.func109, Tryd.ntmps109
  go_wp2
  go_ret
  exact ⟨rfl, rfl⟩
theorem and_u64_15 (a : Nat) (h : a < 9223372036854775808) : bits .and .u64 (a : Int) 15 = ((a % 16 : Nat) : Int) := by
  have h2 : a &&& 15 = a % 16 := Nat.and_two_pow_sub_one_eq_mod a 4
  have hh : (BitVec.ofInt 64 (a : Int) &&& BitVec.ofInt 64 (15 : Int)).toNat = a &&& 15 := by
    rw [show (15 : Int) = ((15 : Nat) : Int) from rfl, BitVec.toNat_and, BitVec.ofInt_natCast, BitVec.ofInt_natCast, BitVec.toNat_ofNat, BitVec.toNat_ofNat, Nat.mod_eq_of_lt (by omega), Nat.mod_eq_of_lt (by omega)]
  show IntKind.u64.wrap ((BitVec.ofInt 64 (a : Int) &&& BitVec.ofInt 64 (15 : Int)).toNat : Int) = _
  rw [hh, h2]
  exact IntWalk.u64_in _ (by omega)
theorem digs_fin : ∀ d : Fin 16, ((#[48, 49, 50, 51, 52, 53, 54, 55, 56, 57, 97, 98, 99, 100, 101, 102, 103, 104, 105, 106, 107, 108, 109, 110, 111, 112, 113, 114, 115, 116, 117, 118, 119, 120, 121, 122] : Array UInt8)[d.val]?) = some (hx d.val) := by decide +kernel
theorem digs_at (d : Nat) (h : d < 16) (h' : d < (⟨#[48, 49, 50, 51, 52, 53, 54, 55, 56, 57, 97, 98, 99, 100, 101, 102, 103, 104, 105, 106, 107, 108, 109, 110, 111, 112, 113, 114, 115, 116, 117, 118, 119, 120, 121, 122]⟩ : ByteArray).size) : (⟨#[48, 49, 50, 51, 52, 53, 54, 55, 56, 57, 97, 98, 99, 100, 101, 102, 103, 104, 105, 106, 107, 108, 109, 110, 111, 112, 113, 114, 115, 116, 117, 118, 119, 120, 121, 122]⟩ : ByteArray)[d]'h' = hx d := by
  have := digs_fin ⟨d, h⟩
  exact Option.some.inj ((Array.getElem?_eq_getElem _).symm.trans this)
theorem addr_two (g t j : Nat) : (⟨g, t, none⟩ : Addr).add j = ⟨g, t + j, none⟩ := by unfold Addr.add; split <;> simp_all
def fbRel (u : Nat) (w : World) (x i : Value) (wr : World) : Prop := ∃ (k t : Nat) (xs : List Value), x = .int .u64 ((u / 16 ^ k : Nat) : Int) ∧ i = .int .i64 ((t : Int) + 1) ∧ k + t = 64 ∧ k ≤ 7 ∧ xs.drop (t + 1) = byteCells (hsuf u k) ∧
  wr.ownsRow w.heap.size 126 1 (.slice (some ⟨w.heap.size, 0, none⟩) 65 65) 65 xs ∧ Below w.heap.size w wr
theorem drop_set {xs : List Value} {t : Nat} (h : t < xs.length) (v : Value) : (xs.set t v).drop t = v :: xs.drop (t + 1) := by
  rw [List.drop_eq_getElem_cons (by simpa using h), List.getElem_set_self, List.drop_set_of_lt (by omega)]
theorem slice_arr (w : World) (g t : Nat) (ht : t < 65) : (Instr.sliceAt 126 (.pointer (some ⟨g, 0, none⟩)) (some (.int .i64 (t : Int))) none none).run Tryd.prog w = .ok (.slice (some ⟨g, t, none⟩) (65 - t) (65 - t)) w := by
  have hl : Tryd.prog.arrayLen 126 = 65 := by kernel_rfl
  have he : Tryd.prog.elem 126 = 5 := by kernel_rfl
  have hu : Tryd.prog.underlying 126 = some (.array (Tryd.prog.arrayLen 126) (Tryd.prog.elem 126)) := by rw [hl, he]; exact Tryd.underlying126
  rw [run_sliceAt_array_l w 126 _ hu .i64 (t : Int) (by omega) (by rw [hl]; omega), hl, he]
  have hs : (sizeOf 5).run Tryd.prog w = .ok 1 w := by kernel_rfl
  rw [hs]
  have h1 : ¬ 65 = t := by omega
  simp [slicedAt, Result.andThen, h1, addr_two]
theorem fb_more {u k : Nat} (hu : u < 4294967296) (h : 16 ≤ u / 16 ^ k) : k + 1 ≤ 7 := by
  rcases Nat.lt_or_ge 7 (k + 1) with h7 | h7
  · exfalso
    have h1 : 16 ^ 7 ≤ 16 ^ k := Nat.pow_le_pow_right (by decide) (by omega)
    have h2 : u / 16 ^ k ≤ u / 16 ^ 7 := Nat.div_le_div_left h1 (by decide)
    have h3 : u / 16 ^ 7 < 16 := by omega
    omega
  · exact h7
set_option maxRecDepth 20000 in
set_option maxHeartbeats 4000000 in
theorem fb_any (u : Nat) (w : World) (hu : u < 4294967296) (hd : Db w) :
    Calls Tryd.prog 88 #[.slice none 0 0, .int .u64 (u : Int), .int .i64 16, .bool false, .bool false] w fun e w' => ∃ K, 1 ≤ K ∧ K ≤ 8 ∧ u / 16 ^ K = 0 ∧ e = .returned (.tuple #[.slice none 0 0, .string ⟨(hsuf u K).toArray⟩]) ∧ Below w.heap.size w w' := by
  have HD := Lib.hid hd
  have HU := Lib.hid hu
  have hz : (Tryd.zeroCells126).size = 65 := by kernel_rfl
  have HZ := Lib.hid hz
  clear hd hu hz
  go_enter Tryd.func88, Tryd.ntmps88
  go_wp2_with (first | (go_at_call 110; refine (tz_any _ (HD.out.below ((Below.refl _ _).alloc (Nat.le_refl _) _))).mono ?_; rintro e w1 ⟨rfl, rfl⟩) | (go_at_call 109; refine (p2_any _).mono ?_; rintro e w1 ⟨rfl, rfl⟩))
  go_loopw [1, 13] (fun x i wr => fbRel u w x i wr) (fun _ i _ => (Go.RowKit.intOf i).toNat)
  case atStart =>
    refine ⟨0, 64, (Tryd.zeroCells126).toList, by simp, rfl, rfl, by omega, ?_, ⟨by rw [Array.length_toList, HZ.out], .inr ⟨w.heap.size, 65, _, rfl, Nat.le_refl _, new_cell _ _, Nat.le_refl _, by unfold maxLen; omega, by rw [HZ.out], by rw [List.take_of_length_le (by rw [Array.length_toList, HZ.out]; omega)]⟩⟩, (Below.refl _ _).alloc (Nat.le_refl _) _⟩
    rw [List.drop_of_length_le (by rw [Array.length_toList, HZ.out]; omega)]
    rfl
  case round =>
    obtain ⟨k, t, xs, rfl, rfl, hkt, hk7, hxd, ho, hb⟩ := hrel
    have hxl : xs.length = 65 := by have := ho.1; simpa using this
    have hle := Nat.div_le_self u (16 ^ k)
    have hrest := hx_rest u k
    have hmore := fb_more (k := k) HU.out
    have hsufk : hsuf u (k + 1) = hx (u / 16 ^ k % 16) :: hsuf u k := rfl
    have hu := HU.out
    obtain ⟨q, hq⟩ : ∃ q, q = u / 16 ^ k := ⟨_, rfl⟩
    rw [← hq] at hle hrest hmore hsufk ⊢
    have hqb : (q : Int) ≤ 4294967295 := by omega
    have HR := Lib.hid hrest
    have HM := Lib.hid hmore
    have HX := Lib.hid hxd
    have HS := Lib.hid hsufk
    have HKT := Lib.hid hkt
    have HXL := Lib.hid hxl
    have ht : t < 65 := by omega
    have hc2 : ∃ v, wr.cell? ⟨w.heap.size, t, none⟩ = some v := by
      rw [ho.cellAt t (by omega)]
      exact ⟨_, List.getElem?_eq_getElem (by omega)⟩
    obtain ⟨v0, hc2⟩ := hc2
    have hf := ho.frozenAt t
    by_cases h16 : 16 ≤ (q : Int)
    · obtain ⟨d, hd⟩ : ∃ d, d = q % 16 := ⟨_, rfl⟩
      have hd16 : d < 16 := by omega
      have hd36 : d < (⟨#[48, 49, 50, 51, 52, 53, 54, 55, 56, 57, 97, 98, 99, 100, 101, 102, 103, 104, 105, 106, 107, 108, 109, 110, 111, 112, 113, 114, 115, 116, 117, 118, 119, 120, 121, 122]⟩ : ByteArray).size := by show d < 36; omega
      have hand : bits .and .u64 (q : Int) 15 = (d : Int) := by rw [hd]; exact and_u64_15 q (by omega)
      have HDX := Lib.hid (digs_at d hd16 hd36)
      have HST := Lib.hid ((ho.stored t (.int .u8 (((⟨#[48, 49, 50, 51, 52, 53, 54, 55, 56, 57, 97, 98, 99, 100, 101, 102, 103, 104, 105, 106, 107, 108, 109, 110, 111, 112, 113, 114, 115, 116, 117, 118, 119, 120, 121, 122]⟩ : ByteArray)[d]'hd36).toNat : Int))).1)
      have HBS := Lib.hid (hb.setCell (p := ⟨w.heap.size, t, none⟩) (Nat.le_refl _) (.int .u8 (((⟨#[48, 49, 50, 51, 52, 53, 54, 55, 56, 57, 97, 98, 99, 100, 101, 102, 103, 104, 105, 106, 107, 108, 109, 110, 111, 112, 113, 114, 115, 116, 117, 118, 119, 120, 121, 122]⟩ : ByteArray)[d]'hd36).toNat : Int)))
      have HDD := Lib.hid hd
      clear hle hrest hmore hsufk hxd hq hkt hxl ho hb hu hd
      go_wp2
      go_roundw
      case rel =>
        refine ⟨k + 1, t - 1, _, ?_, ?_, by have := HKT.out; have := HM.out (by omega); omega, HM.out (by omega), ?_, HST.out, HBS.out⟩
        · rw [← HR.out]; go_num
        · have := HKT.out; have := HM.out (by omega); rw [show ((t - 1 : Nat) : Int) + 1 = (t : Int) by omega]
        · have := HKT.out
          have := HM.out (by omega)
          rw [show t - 1 + 1 = t by omega, drop_set (by rw [HXL.out]; omega), HX.out, HDX.out, HDD.out, HS.out]
          rfl
      case measure => simp [Go.RowKit.intOf] <;> omega
    · have hq16 : q < 16 := by omega
      have hge : decide ((16 : Int) ≤ (q : Int)) = false := decide_eq_false (by omega)
      have hq36 : q < (⟨#[48, 49, 50, 51, 52, 53, 54, 55, 56, 57, 97, 98, 99, 100, 101, 102, 103, 104, 105, 106, 107, 108, 109, 110, 111, 112, 113, 114, 115, 116, 117, 118, 119, 120, 121, 122]⟩ : ByteArray).size := by show q < 36; omega
      have HDX := Lib.hid (digs_at q hq16 hq36)
      have hst := (ho.stored t (.int .u8 (((⟨#[48, 49, 50, 51, 52, 53, 54, 55, 56, 57, 97, 98, 99, 100, 101, 102, 103, 104, 105, 106, 107, 108, 109, 110, 111, 112, 113, 114, 115, 116, 117, 118, 119, 120, 121, 122]⟩ : ByteArray)[q]'hq36).toNat : Int))).1
      have hbs := hb.setCell (p := ⟨w.heap.size, t, none⟩) (Nat.le_refl _) (.int .u8 (((⟨#[48, 49, 50, 51, 52, 53, 54, 55, 56, 57, 97, 98, 99, 100, 101, 102, 103, 104, 105, 106, 107, 108, 109, 110, 111, 112, 113, 114, 115, 116, 117, 118, 119, 120, 121, 122]⟩ : ByteArray)[q]'hq36).toNat : Int))
      have hl : hsuf u (k + 1) = hx q :: hsuf u k := by rw [hsufk, Nat.mod_eq_of_lt hq16]
      have hdrop : (xs.set t (.int .u8 (((⟨#[48, 49, 50, 51, 52, 53, 54, 55, 56, 57, 97, 98, 99, 100, 101, 102, 103, 104, 105, 106, 107, 108, 109, 110, 111, 112, 113, 114, 115, 116, 117, 118, 119, 120, 121, 122]⟩ : ByteArray)[q]'hq36).toNat : Int))).drop t = byteCells (hsuf u (k + 1)) := by
        rw [drop_set (by omega), hxd, hl, HDX.out]
        rfl
      have hcv := run_convert_bytes_back (P := Tryd.prog) (wr.setCell ⟨w.heap.size, t, none⟩ (.int .u8 (((⟨#[48, 49, 50, 51, 52, 53, 54, 55, 56, 57, 97, 98, 99, 100, 101, 102, 103, 104, 105, 106, 107, 108, 109, 110, 111, 112, 113, 114, 115, 116, 117, 118, 119, 120, 121, 122]⟩ : ByteArray)[q]'hq36).toNat : Int))) 72 9 5 ⟨w.heap.size, t, none⟩ (65 - t) (hsuf u (k + 1)) Tryd.underlying72 Tryd.underlying5 Tryd.underlying9 (fun j hj => by
        have h1 : (xs.set t (.int .u8 (((⟨#[48, 49, 50, 51, 52, 53, 54, 55, 56, 57, 97, 98, 99, 100, 101, 102, 103, 104, 105, 106, 107, 108, 109, 110, 111, 112, 113, 114, 115, 116, 117, 118, 119, 120, 121, 122]⟩ : ByteArray)[q]'hq36).toNat : Int)))[t + j]? = some (.int .u8 ((hsuf u (k + 1))[j].toNat : Int)) := by
          rw [← List.getElem?_drop, hdrop]
          exact byteCells_at _ j hj
        have h2 := hst.cells (g := w.heap.size) rfl (t + j) _ h1
        rw [addr_two] at h2 ⊢
        rwa [Nat.zero_add] at h2)
      rw [hsuf_len, show k + 1 = 65 - t by omega] at hcv
      have hsl := slice_arr (wr.setCell ⟨w.heap.size, t, none⟩ (.int .u8 (((⟨#[48, 49, 50, 51, 52, 53, 54, 55, 56, 57, 97, 98, 99, 100, 101, 102, 103, 104, 105, 106, 107, 108, 109, 110, 111, 112, 113, 114, 115, 116, 117, 118, 119, 120, 121, 122]⟩ : ByteArray)[q]'hq36).toNat : Int))) w.heap.size t (by omega)
      have HK : Hid (65 - t = k + 1) := by show _ = _; omega
      have HE : Hid (u / 16 ^ (k + 1) = 0) := by show _ = _; rw [← hrest]; omega
      obtain ⟨l, hl2⟩ : ∃ l, l = hsuf u (65 - t) := ⟨_, rfl⟩
      rw [← hl2] at hcv
      have HL := Lib.hid hl2
      have HB := Lib.hid hbs
      clear hle hrest hmore hsufk hxd hq hkt hxl ho hb hu hst hbs hl hdrop hl2
      go_wp2
      go_ret2
      exact ⟨k + 1, by omega, by omega, HE.out, by rw [HL.out, HK.out]; rfl, HB.out⟩
set_option maxRecDepth 20000 in
set_option maxHeartbeats 1000000 in
theorem fi_inner (u : Nat) (w : World) (hu : u < 4294967296) (hd : Db w) :
    Calls Tryd.prog 63 #[.int .i64 (u : Int), .int .i64 16] w fun e w' => ∃ K, 1 ≤ K ∧ K ≤ 8 ∧ u / 16 ^ K = 0 ∧ e = .returned (.string ⟨(hsuf u K).toArray⟩) ∧ Below w.heap.size w w' := by
  have hf := fb_any u w hu hd
  have hub : (u : Int) ≤ 4294967295 := by omega
  have hneg : decide ((u : Int) < 0) = false := decide_eq_false (by omega)
  clear hu hd
  go_enter Tryd.func63, Tryd.ntmps63
  go_wp2_with (go_at_call 88; refine hf.mono ?_; rintro e w' ⟨K, h1, h2, h3, rfl, hb⟩; have H3 := Lib.hid h3; clear h3)
  go_ret
  exact ⟨K, h1, h2, H3.out, rfl, hb⟩
theorem fi_any (u : Nat) (w : World) (hu : u < 4294967296) (hd : Db w) :
    Calls Tryd.prog 39 #[.int .i64 (u : Int), .int .i64 16] w fun e w' => ∃ K, 1 ≤ K ∧ K ≤ 8 ∧ u / 16 ^ K = 0 ∧ e = .returned (.string ⟨(hsuf u K).toArray⟩) ∧ Below w.heap.size w w' := by
  have hf := fi_inner u w hu hd
  clear hu hd
  go_enter Tryd.func39, Tryd.ntmps39
  go_wp2_with (go_at_call 63; refine hf.mono ?_; rintro e w' ⟨K, h1, h2, h3, rfl, hb⟩; have H3 := Lib.hid h3; clear h3)
  go_ret
  exact ⟨K, h1, h2, H3.out, rfl, hb⟩
theorem rep_zero : ∀ c : Nat, repeatL [48] c = List.replicate c 48
  | 0 => rfl
  | c + 1 => by rw [repeatL, rep_zero c, List.replicate_succ]; rfl
theorem pad_join (u K c : Nat) (h : u / 16 ^ K = 0) (hc : K + c = 8) : (⟨(repeatL [48] c).toArray⟩ : ByteArray) ++ (⟨(hsuf u K).toArray⟩ : ByteArray) = ⟨(hsuf u 8).toArray⟩ := by
  apply Go.WideShapes.bytes_inj
  rw [Go.Joins.data_append, ← hc, hsuf_pad u K h c, rep_zero]
theorem rep_len (c : Nat) : (repeatL [48] c).length = c := by rw [rep_zero]; simp
set_option maxHeartbeats 1000000 in
theorem bitsText_any (x : Nat) (w : World) (hw : (Lit.float .f32 x).wf = true) (hd : Db w) :
    Calls Tryd.prog 54 #[.float .f32 x] w (strPost (hsuf (cn .f32 x) 8) w) := by
  have hb := BitsOf_any x w hw
  have hf := fi_any (cn .f32 x) w (cn_lt hw) hd
  clear hw hd
  generalize cn .f32 x = u at *
  go_enter Tryd.func54, Tryd.ntmps54
  go_wp2_with (first | (go_at_call 78; refine hb.mono ?_; rintro e w' ⟨rfl, rfl⟩) | (go_at_call 39; refine hf.mono ?_; rintro e w1 ⟨K, h1, h2, h3, rfl, hb1⟩; refine Hid.out ?_))
  refine Lib.hid ?_
  clear hb hf
  obtain ⟨c, hc⟩ : ∃ c, K + c = 8 := ⟨8 - K, by omega⟩
  have hj := Lib.hid (pad_join u K c h3 hc)
  have hr := Tryd.strings_Repeat ⟨#[48]⟩ c w1 (by omega) (by show 1 * c ≤ _; omega)
  have hr : Calls Tryd.prog 79 #[.string ⟨#[48]⟩, .int .i64 (8 - (K : Int))] w1 fun e w' => e = .returned (.string ⟨(repeatL [48] c).toArray⟩) ∧ Below w1.heap.size w1 w' := by
    rw [show (8 : Int) - (K : Int) = (c : Int) by omega]; exact hr
  have hl1 : (repeatL [48] c).length ≤ 8 := by rw [rep_len]; omega
  have hl2 : (hsuf u K).length = K := hsuf_len u K
  clear h3 hc
  go_wp2_with (go_at_call 79; refine hr.mono ?_; rintro e w2 ⟨rfl, hb2⟩)
  go_ret
  exact ⟨by rw [← hj.out]; rfl, hb1.trans (hb2.mono hb1.size)⟩
end Go.Proofs.YtcbfefamemidnaaDoor
