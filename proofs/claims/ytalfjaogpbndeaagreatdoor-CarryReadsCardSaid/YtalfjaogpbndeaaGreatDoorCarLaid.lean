/-
  What the listed variables and the world's shape give carry's walks.
-/
import Derived.Test.YtalfjaogpbndeaaGreatDoorCarCheck
import Derived.Lib.LaidU8
import Derived.Shelf.Vars
import Derived.LaidSub
namespace Go.Proofs.YtalfjaogpbndeaaGreatDoor
open Go.RowKit

theorem tab_of_laid {W : World} {l : List (String × DataW Unit)} {name : String} {k : IntKind} {zs : List Int} {g : Nat} {t e : TypeId} {n : Nat} (h : laidMet Tryz.prog l W) (hm : (name, Lib.tabData k zs) ∈ l)
    (hg : Tryz.prog.globalNamed name = some g) (hty : (Tryz.prog.globals[g]?).map (·.type) = some t) (ht : Tryz.prog.underlying t = some (.array n e)) (he : Tryz.prog.underlying e = some (.int k)) (hce : Tryz.prog.cellsOf e = 1) (hct : Tryz.prog.cellsOf t = n) :
    Lib.TabIs Tryz.prog W name k zs := by
  obtain ⟨g', t', cs, fuel, p, hg', ht', hvar, hd⟩ := Lib.laidMet.reads h hm
  obtain rfl := Option.some.inj (hg.symm.trans hg')
  obtain rfl := Option.some.inj (hty.symm.trans ht')
  unfold Lib.TabIs
  rw [hvar, ← Lib.cells_of_tab ht he hce hct hd]
theorem iface_of_laid {W : World} {l : List (String × DataW Unit)} {name : String} {s : String} {d : DataW Unit} (h : laidMet Tryz.prog l W) (hm : (name, .iface s d) ∈ l) {g : Nat} (hg : Tryz.prog.globalNamed name = some g) (hty : (Tryz.prog.globals[g]?).map (·.type) = some 26) :
    ∃ te pe, W.var? Tryz.prog name = some #[.iface te pe] := by
  obtain ⟨g', t', cs, fuel, p, hg', ht', hvar, hd⟩ := Lib.laidMet.reads h hm
  obtain rfl := Option.some.inj (hg.symm.trans hg')
  obtain rfl := Option.some.inj (hty.symm.trans ht')
  obtain ⟨f1, u, v, hc, _⟩ := iface_of_trod Tryz.underlying26 hd
  exact ⟨u, v, by rw [hvar]; congr 1; exact Array.ext' (by rw [hc])⟩
theorem carW_of {W : World} {l : List (String × DataW Unit)} (h : laidMet Tryz.prog l W) (hsh : W.ShapedOpen Tryz.prog)
    (h1 : ("math/bits.deBruijn64tab", Rows.laid_math_bits_deBruijn64tab) ∈ l) (h2 : ("internal/strconv.uint64pow10", Rows.laid_internal_strconv_uint64pow10) ∈ l)
    (h3 : ("strconv.ErrSyntax", Rows.laid_strconv_ErrSyntax) ∈ l) (h4 : ("strconv.ErrRange", Rows.laid_strconv_ErrRange) ∈ l) : CarW W := by
  refine ⟨⟨?_, ?_, ?_⟩, ?_, ?_, ?_⟩
  · exact tab_of_laid (g := 10) h h2 (by kernel_rfl) (by kernel_rfl) Tryz.underlying159 Tryz.underlying43 (by kernel_rfl) (by kernel_rfl)
  · exact iface_of_laid (g := 12) h h3 (by kernel_rfl) (by kernel_rfl)
  · exact iface_of_laid (g := 13) h h4 (by kernel_rfl) (by kernel_rfl)
  · have := tab_of_laid (g := 17) (zs := [0, 1, 56, 2, 57, 49, 28, 3, 61, 58, 42, 50, 38, 29, 17, 4, 62, 47, 59, 36, 45, 43, 51, 22, 53, 39, 33, 30, 24, 18, 12, 5, 63, 55, 48, 27, 60, 41, 37, 16, 46, 35, 44, 21, 52, 32, 23, 11, 54, 26, 40, 15, 34, 20, 31, 10, 25, 14, 19, 9, 13, 8, 7, 6]) h h1 (by kernel_rfl) (by kernel_rfl) Tryz.underlying178 Tryz.underlying5 (by kernel_rfl) (by kernel_rfl)
    exact this.cell (g := 17) (by kernel_rfl) 15 (by decide)
  · exact cell_of_shapedOpen_int (zero := #[.int .i64 0]) (t := 3) hsh (of_decide_eq_true (by kernel_rfl)) (by kernel_rfl) rfl (by kernel_rfl) (by kernel_rfl) Tryz.underlying3
  · obtain ⟨o, _, ho, _⟩ := hsh.2 18 (of_decide_eq_true (by kernel_rfl)) (of_decide_eq_true (by kernel_rfl))
    have := (Array.getElem?_eq_some_iff.1 ho).1
    omega
theorem u8_of_wf {x : Int} (h : (Lit.int .u8 x).wf = true) : ∃ n : UInt8, x = (n.toNat : Int) := by
  have h2 : 0 ≤ x ∧ x ≤ 255 := by simpa [Lit.wf, IntKind.min, IntKind.max, IntKind.signed, IntKind.bits] using h
  refine ⟨UInt8.ofNat x.toNat, ?_⟩
  rw [UInt8.toNat_ofNat']
  omega
theorem errsK_of {W : World} {ea : Nat → Addr} {gs : List Nat} (h : ErrsAt W ea gs) (h1 : gv 1 ∈ gs) (h2 : gv 2 ∈ gs) (h4 : gv 4 ∈ gs) (h6 : gv 6 ∈ gs) (h9 : gv 9 ∈ gs) : ErrsK ea W := ⟨h.cell h1, h.cell h2, h.cell h4, h.cell h6, h.cell h9⟩
end Go.Proofs.YtalfjaogpbndeaaGreatDoor
