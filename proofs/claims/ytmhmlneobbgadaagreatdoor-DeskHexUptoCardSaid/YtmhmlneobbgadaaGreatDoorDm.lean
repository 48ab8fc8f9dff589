/- Bytes there and back as digits: the law, as a call. -/
import Derived.Test.YtmhmlneobbgadaaGreatDoorDk
namespace Go.Proofs.YtmhmlneobbgadaaGreatDoor.Dk
open Go Go.RowKit Go.Vc Go.Proofs.YtmhmlneobbgadaaGreatDoor.Fs
attribute [local irreducible] Go.Vc.If

theorem dec_list (l m : List UInt8) (h : l = m) : ((l == m) : Bool) = true := by subst h; exact beq_self_eq_true _
theorem hex_law {W : World} {a : Option Addr} {n c : Nat} {l : List UInt8} (s : ByteArray) (hr : RdL W 1 enC a l) (hn : n = l.length) (hl : l.length ≤ 100000000) (hs : s.size ≤ 100000000) :
    Gives Tryz.prog 3 #[.slice a n c, .string s] W fun v W' => v = .bool true ∧ Below W.heap.size W W' := F3_fn (by
  unfold F3
  have hS := Ow.start NoS W
  have hh := hexL_len l
  have h1 : unR (bs (hexL l)).data.toList = (l, 0) := by
    have : (bs (hexL l)).data.toList = hexL l := rfl
    rw [this]; unfold unR; rw [unL_hexL]
  refine hS.callv (hex_gives hr hn (by omega)) fun W1 hS => AsS.mk ?_
  refine CallK.mk (unhex_gives (bs (hexL l)) (by show (hexL l).toArray.size ≤ _; rw [List.size_toArray, hh]; omega) W1) fun v W2 ⟨⟨u, hv, hn1⟩, hb⟩ => ?_
  rw [h1] at hv hn1
  subst hv
  obtain ⟨a1, c1, rfl, hs1, ho1⟩ := hn1
  have hS := hS.newsl hb hs1 ho1
  refine AsT2.mk (AsL.mk rfl (AsI.mk ?_))
  refine CallK.mk (unhex_gives s (by omega) W2) fun v W3 ⟨⟨u, hv, hn2⟩, hb⟩ => ?_
  subst hv
  generalize hR : unR s.data.toList = R at hn2 ⊢
  obtain ⟨a2, c2, rfl, hs2, ho2⟩ := hn2
  have hS := hS.newsl hb hs2 ho2
  refine AsT2.mk (AsL.mk rfl (AsI.mk ?_))
  refine hS.callv (Ev.alive_gives W3) fun W4 hS => AsB.mk ?_
  refine Join.use fun J hJ => If.pos rfl ?_
  rw [hJ]
  refine Join.use fun J1 hJ1 => If.pos rfl ?_
  refine back_of (hS.rd 1 rfl) rfl (AsS.mk (back_of (hr.bel hS.bel) hn (AsS.mk ?_)))
  rw [hJ1]
  refine Join.use fun J2 hJ2 => If.pos (dec_list _ _ rfl) ?_
  refine hS.callv (hex_gives (hr.bel hS.bel) hn (by omega)) fun W5 hS => AsS.mk ?_
  rw [hJ2]
  refine Join.use fun J3 hJ3 => If.pos ?_ ?_
  · have : (bs (hexL l)).size = 2 * l.length := by show (hexL l).toArray.size = _; rw [List.size_toArray, hh]
    rw [this, wrap_i64 (by omega) (by omega)]
    exact beq_iff_eq.2 (by omega)
  · refine Join.use fun J4 hJ4 => ?_
    have done : ∀ W', Ow NoS W W' [.sl 5 1 enC (.slice a2 R.1.length c2) R.1, .sl 5 1 enC (.slice a1 l.length c1) l] → J4 true W' := fun W' hS => by
      rw [hJ4]; dsimp only
      rw [hJ3]; exact ⟨rfl, hS.bel⟩
    unfold unR at hR
    split at hR
    · rename_i d hd
      subst hR
      have hlen := unL_len hd
      have hsz : s.size = s.data.toList.length := (Array.length_toList).symm
      refine If.neg rfl (hS.callv (hex_gives (hS.rd 0 rfl) rfl (by dsimp only; omega)) fun W6 hS => AsS.mk ?_)
      dsimp only
      rw [hexL_unL hd, bs_data, dec_list _ _ rfl]
      exact done W6 hS
    · subst hR
      exact If.pos rfl (done W5 hS))
end Go.Proofs.YtmhmlneobbgadaaGreatDoor.Dk
