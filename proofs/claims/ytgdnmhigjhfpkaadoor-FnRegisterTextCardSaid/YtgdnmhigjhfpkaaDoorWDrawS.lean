/- Contracts of the functions that draw strings of bits. -/
import Derived.Test.YtgdnmhigjhfpkaaDoorWDrawR
import Derived.Test.YtgdnmhigjhfpkaaDoorWStrs
import Derived.Test.YtgdnmhigjhfpkaaDoorWMxi
import Derived.Test.YtgdnmhigjhfpkaaDoorWMany
namespace Go.Proofs.YtgdnmhigjhfpkaaDoor
open Go.RowKit SS
set_option maxRecDepth 100000
theorem OwnB.kp {w w' : World} {base R : Nat} {v : Value} {l : List UInt8} (h : OwnB w base v l) (k : Kp R w w') (hb : R < base) : OwnB w' base v l := by
  refine ⟨⟨h.1.1, ?_⟩, h.2⟩
  rcases h.1.2 with hn | ⟨g, cap, cur, hv, hg, hh, r⟩
  · exact .inl hn
  · exact .inr ⟨g, cap, cur, hv, hg, (k.at_ (by omega) (Array.getElem?_eq_some_iff.1 hh).1).trans hh, r⟩
theorem Dr.grown {w wr w2 : World} {R B N : Nat} {row : Option Nat} (h : Dr w R B N wr) (hg : wr.grownBy w2 row) (hr : ∀ k, row = some k → w.heap.size ≤ k) : Dr w R B N w2 := by
  obtain ⟨hrd, hk, hR⟩ := h
  have hl := hrd.lt
  have hz := hk.size
  have hb : Below R wr w2 := ⟨hg.os, hg.tape, hg.output, hg.size, fun k hk => hg.block k (by omega) (fun e => by have := hr k e.symm; omega)⟩
  refine ⟨?_, ⟨hk.1.trans hb, fun b hb1 hb2 => (hg.block b (by omega) (fun e => by have := hr b e.symm; omega)).trans (hk.2 b hb1 hb2)⟩, hR⟩
  obtain ⟨A, len, cap, p, h1, h2, h3, h4, h5⟩ := hrd
  exact ⟨A, len, cap, p, (hg.block R (by omega) (fun e => by have := hr R e.symm; omega)).trans h1, h2, h3, h4, h5.below (hb.mono h2)⟩
/-- some string comes back -/
def SomeS (lo hi R B N : Nat) (w : World) (e : Ending) (w' : World) : Prop := ∃ q : ByteArray, e = .returned (.string q) ∧ lo ≤ q.size ∧ q.size ≤ hi ∧ Dr w R B N w'
/-- a block of strings -/
def BT (w : World) (b : Nat) (T : TypeId) (l : List ByteArray) : Prop := w.heap[b]? = some (.cells (l.map Value.string).toArray T (0, 0))
theorem BT.lit (w : World) (T : TypeId) (l : List ByteArray) : BT (w.alloc (.cells (l.map Value.string).toArray T)) w.heap.size T l := heap_alloc_new w _
theorem BT.lt {w : World} {b : Nat} {T : TypeId} {l : List ByteArray} (h : BT w b T l) : b < w.heap.size := (Array.getElem?_eq_some_iff.1 h).1
theorem BT.cell {w : World} {b : Nat} {T : TypeId} {l : List ByteArray} (h : BT w b T l) (i : Nat) (v : ByteArray) (hi : l[i]? = some v) : w.cell? ⟨b, i, none⟩ = some (.string v) := by
  rw [cell_of_row w b i _ T _ h]
  simp [hi]
set_option maxHeartbeats 1000000 in
theorem of_any (l : List ByteArray) (m g cap R B N : Nat) (w : World) (h : Rd w R B N) (hN : N ≤ 1000000) (hb : BT w g 9 l) (hg : g ≠ R) (h0 : 0 < l.length) (hl : l.length ≤ 1000) (hm : ∀ s ∈ l, s.size ≤ m) :
    Calls Tryd.prog 27 #[.pointer (some ⟨R, 0, none⟩), .slice (some ⟨g, 0, none⟩) l.length cap] w (SomeS 0 m R B (N + 1) w) := by
  have C := Lib.hid (pick_any l.length R B N w h hN)
  have HD := Lib.hid (Dr.start h)
  have HB := Lib.hid hb
  have HMM := Lib.hid hm
  clear hb h hm
  go_enter Tryd.func27, Tryd.ntmps27
  go_wp2_with fail
  refine C.out.mono ?_
  rintro e w1 ⟨v, rfl, hv0, hv1, hr, hk⟩
  have HD1 := Lib.hid (HD.out.draw hr hk)
  have hb1 : BT w1 g 9 l := (hk.at_ hg HB.out.lt).trans HB.out
  obtain ⟨q, rfl⟩ := Int.eq_ofNat_of_zero_le hv0
  have hq : q < l.length := by have := hv1 (by omega); omega
  have c0 := hb1.cell q _ (List.getElem?_eq_getElem hq)
  have HM := Lib.hid (HMM.out _ (List.getElem_mem hq))
  generalize l[q] = x at c0 HM
  clear hr hk hb1 HB C hv1
  go_wp2
  go_ret
  exact ⟨x, rfl, Nat.zero_le _, HM.out, HD1.out⟩
theorem no_over {a b : ByteArray} {m n : Nat} (ha : a.size ≤ m) (hb : b.size ≤ n) (h : m + n ≤ 1000000) : ¬ 9223372036854775807 < a.size + b.size := by omega
end Go.Proofs.YtgdnmhigjhfpkaaDoor
