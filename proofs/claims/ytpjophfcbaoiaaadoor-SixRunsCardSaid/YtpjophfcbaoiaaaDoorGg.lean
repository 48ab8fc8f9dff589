/- What the library's variables hold, with the table that counts trailing zeros. -/
import Derived.Test.YtpjophfcbaoiaaaDoorGf
import Derived.Test.YtpjophfcbaoiaaaDoorFm
namespace Go.Proofs.YtpjophfcbaoiaaaDoor.Si
open Go Go.RowKit Go.Vc Go.Proofs.YtpjophfcbaoiaaaDoor Go.Proofs.YtpjophfcbaoiaaaDoor.Fs Go.Proofs.YtpjophfcbaoiaaaDoor.Fo

structure V6 (W : World) : Prop where
  vr : Vr W
  tab : W.cell? ⟨7, 15, none⟩ = some (.int .u8 4)
theorem V6.bel {W W' : World} (h : V6 W) (hb : Below W.heap.size W W') : V6 W' := ⟨h.vr.bel hb, cell_bel h.tab hb⟩
abbrev dbTab : List Int := [0, 1, 56, 2, 57, 49, 28, 3, 61, 58, 42, 50, 38, 29, 17, 4, 62, 47, 59, 36, 45, 43, 51, 22, 53, 39, 33, 30, 24, 18, 12, 5, 63, 55, 48, 27, 60, 41, 37, 16, 46, 35, 44, 21, 52, 32, 23, 11, 54, 26, 40, 15, 34, 20, 31, 10, 25, 14, 19, 9, 13, 8, 7, 6]
theorem v6_of {W : World} (hs : W.ShapedOpen Tryd.prog) (h0 : laidMetH Tryd.prog laid W) : V6 W := by
  have h := (plainLaid W h0).tail
  have ht : Lib.TabIs Tryd.prog W "math/bits.deBruijn64tab" .u8 dbTab := Lib.tabIs_of_head (g := 7) (t := 140) (e := 5) (n := 64) (by kernel_rfl) (by kernel_rfl) (by kernel_rfl) (by kernel_rfl) (by kernel_rfl) (by kernel_rfl) h
  exact ⟨vr_of hs h0, ht.cell (by kernel_rfl) 15 (by decide)⟩
end Go.Proofs.YtpjophfcbaoiaaaDoor.Si
