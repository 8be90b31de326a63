/-
  What the listed variables give a walk: the table of powers of ten, the two errors of strconv.
-/
import Derived.Test.YtcbfefamemidnaaDoorRows
import Derived.Test.YtcbfefamemidnaaDoorShD
import Derived.Lib.LaidTab
import Derived.Lib.LaidU8
import Derived.Lib.SmallJoins
import Derived.Stop.LaidErr
import Derived.Below
namespace Go.Proofs.YtcbfefamemidnaaDoor
open Go.RowKit Go.Lib

theorem tab_of_reads {P : Program} {W : World} {name : String} {k : IntKind} {zs : List Int} {g : Nat} {t e : TypeId} {n : Nat}
    (hg : P.globalNamed name = some g) (hty : (P.globals[g]?).map (·.type) = some t) (ht : P.underlying t = some (.array n e)) (he : P.underlying e = some (.int k)) (hce : P.cellsOf e = 1) (hct : P.cellsOf t = n)
    (h : VarReads P W name (tabData k zs)) : TabIs P W name k zs := by
  obtain ⟨g', t', cs, fuel, p, hg', ht', hvar, hd⟩ := h
  obtain rfl := Option.some.inj (hg.symm.trans hg')
  obtain rfl := Option.some.inj (hty.symm.trans ht')
  unfold TabIs
  rw [hvar, ← cells_of_tab ht he hce hct hd]
theorem laidMet_tail {P : Program} {W : World} {x : String × DataW Unit} {r : List (String × DataW Unit)} (h : laidMet P (x :: r) W) : laidMet P r W := by
  obtain ⟨n, d⟩ := x
  obtain ⟨ps, ⟨g, t, cs, fuel, p, q, h1, h2, h3, h4, h5, rfl⟩, hn, hall⟩ := h
  refine ⟨q, h5, (List.nodup_append.1 hn).2.1, fun b off hm => hall b off (List.mem_append_right _ hm)⟩

theorem gPow : Tryd.prog.globalNamed Tryd.pow10 = some 1 := by kernel_rfl
theorem gPowT : (Tryd.prog.globals[1]?).map (·.type) = some 125 := by kernel_rfl
/-- The table as the contracts ask for it. -/
def Pow (w : World) : Prop := TabIs Tryd.prog w Tryd.pow10 .u64 pow10Tab
theorem pow_data : (Rows.laid_internal_strconv_uint64pow10 : DataW Unit) = tabData .u64 pow10Tab := by kernel_rfl
theorem pow_of_reads {W : World} (h : VarReads Tryd.prog W Tryd.pow10 Rows.laid_internal_strconv_uint64pow10) : Pow W := by
  rw [pow_data] at h
  exact tab_of_reads gPow gPowT Tryd.underlying125 Tryd.underlying89 (by kernel_rfl) (by kernel_rfl) h
theorem Pow.below {w w' : World} (h : Pow w) (hb : Below w.heap.size w w') : Pow w' := Go.Joins.tab_stays gPow h hb (Nat.le_refl _)

theorem gSyn : Tryd.prog.globalNamed "strconv.ErrSyntax" = some 2 := by kernel_rfl
theorem gRng : Tryd.prog.globalNamed "strconv.ErrRange" = some 3 := by kernel_rfl
theorem gSynT : (Tryd.prog.globals[2]?).map (·.type) = some 51 := by kernel_rfl
theorem gRngT : (Tryd.prog.globals[3]?).map (·.type) = some 51 := by kernel_rfl
theorem star_join : "*" ++ "errors.errorString" = "*errors.errorString" := by decide
theorem row_err (u : TypeId) (h : Tryd.prog.typeName? 3 u = some "*errors.errorString") : u = 143 :=
  typeName_ptr_named (nm := "errors.errorString") (by rw [star_join]; kernel_rfl) (by kernel_rfl) (by decide) u (by rw [star_join]; exact h)
/-- The two errors hold values of an interface's type. -/
def Errs (w : World) : Prop := (∃ tp p, w.var? Tryd.prog "strconv.ErrSyntax" = some #[.iface tp p]) ∧ ∃ tp p, w.var? Tryd.prog "strconv.ErrRange" = some #[.iface tp p]
theorem errs_of {r : List (String × DataW Unit)} {W : World} (h : laidMet Tryd.prog (("strconv.ErrRange", Rows.laid_strconv_ErrRange) :: ("strconv.ErrSyntax", Rows.laid_strconv_ErrSyntax) :: r) W) : Errs W := by
  obtain ⟨a, s, hv, -, -, -⟩ := laid_sentinel h gRng gRngT Tryd.underlying51 row_err Tryd.underlying143 Tryd.underlying145 rfl rfl Tryd.underlying9 (by kernel_rfl) (by kernel_rfl)
  obtain ⟨a', s', hv', -, -, -⟩ := laid_sentinel (laidMet_tail h) gSyn gSynT Tryd.underlying51 row_err Tryd.underlying143 Tryd.underlying145 rfl rfl Tryd.underlying9 (by kernel_rfl) (by kernel_rfl)
  exact ⟨⟨_, _, hv'⟩, ⟨_, _, hv⟩⟩
theorem Errs.below {w w' : World} (h : Errs w) (hb : Below w.heap.size w w') : Errs w' := by
  obtain ⟨⟨t, p, h1⟩, t', p', h2⟩ := h
  exact ⟨⟨t, p, Go.Joins.var_stays gSyn h1 hb (Nat.le_refl _)⟩, t', p', Go.Joins.var_stays gRng h2 hb (Nat.le_refl _)⟩
theorem pow_dec {W : World} (h : laidMet Tryd.prog Rows.fnExactDecimalRow.laid W) : Pow W := pow_of_reads (laidMet.reads h (.tail _ (.tail _ (.head _))))
theorem pow_list {W : World} (h : laidMet Tryd.prog Rows.fnExactListTextRow.laid W) : Pow W := pow_of_reads (laidMet.reads h (.tail _ (.tail _ (.head _))))
theorem pow_rd {W : World} (h : laidMet Tryd.prog Rows.fnExactReadDecimalRow.laid W) : Pow W := pow_of_reads (laidMet.reads h (.tail _ (.tail _ (.head _))))
theorem errs_rd {W : World} (h : laidMet Tryd.prog Rows.fnExactReadDecimalRow.laid W) : Errs W := errs_of (laidMet_tail (laidMet_tail (laidMet_tail h)))
theorem pow_rl {W : World} (h : laidMet Tryd.prog Rows.fnExactReadListRow.laid W) : Pow W := pow_of_reads (laidMet.reads h (.tail _ (.tail _ (.head _))))
theorem errs_rl {W : World} (h : laidMet Tryd.prog Rows.fnExactReadListRow.laid W) : Errs W := errs_of (laidMet_tail (laidMet_tail (laidMet_tail (laidMet_tail h))))
theorem errs_rn {W : World} (h : laidMet Tryd.prog Rows.fnExactReadNumbersRow.laid W) : Errs W := errs_of (laidMet_tail (laidMet_tail (laidMet_tail (laidMet_tail h))))
theorem errs_rc {W : World} (h : laidMet Tryd.prog Rows.fnExactReadComplexRow.laid W) : Errs W := errs_of (laidMet_tail (laidMet_tail (laidMet_tail (laidMet_tail h))))
end Go.Proofs.YtcbfefamemidnaaDoor
