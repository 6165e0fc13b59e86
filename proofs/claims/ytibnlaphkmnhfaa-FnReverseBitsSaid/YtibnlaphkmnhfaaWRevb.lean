/- Contracts of slices.Reverse at bytes, and of the program's ReverseBits. -/
import Derived.Test.YtibnlaphkmnhfaaWSum
import Derived.Deep.RegionWith
import Derived.Lib.ConvBytes
namespace Go.Proofs.Ytibnlaphkmnhfaa
open Go.RowKit SS
set_option maxRecDepth 100000

/-- letters, of which the first and last i are exchanged -/
def swt (l : List UInt8) (i : Nat) : List UInt8 := tab l.length fun p => if p < i ∨ l.length - 1 - p < i then at_ l (l.length - 1 - p) else at_ l p
theorem swt_length (l : List UInt8) (i : Nat) : (swt l i).length = l.length := tab_length _ _
theorem swt_zero (l : List UInt8) : swt l 0 = l := by
  have h : swt l 0 = tab l.length (at_ l) := tab_congr _ _ _ fun i hi => by simp
  rw [h, tab_at]
theorem at_set (l : List UInt8) (i p : Nat) (c : UInt8) (hi : i < l.length) : at_ (l.set i c) p = if p = i then c else at_ l p := by
  unfold at_
  rw [List.getD_eq_getElem?_getD, List.getElem?_set]
  by_cases h : p = i
  · subst h; simp [hi]
  · rw [if_neg (fun e => h e.symm), if_neg h, ← List.getD_eq_getElem?_getD]
theorem swt_step (l : List UInt8) (i : Nat) (h : i < l.length - 1 - i) : ((swt l i).set i (at_ l (l.length - 1 - i))).set (l.length - 1 - i) (at_ l i) = swt l (i + 1) := by
  apply list_ext (by simp [swt_length])
  intro p hp
  have hp' : p < l.length := by simpa [swt_length] using hp
  rw [at_set _ _ _ _ (by simp [swt_length]; omega), at_set _ _ _ _ (by rw [swt_length]; omega)]
  unfold swt
  rw [at_tab _ _ _ hp', at_tab _ _ _ hp']
  by_cases h1 : p = l.length - 1 - i
  · rw [if_pos h1, if_pos (by omega), h1]
    congr 1; omega
  · rw [if_neg h1]
    by_cases h2 : p = i
    · rw [if_pos h2, if_pos (by omega), h2]
    · rw [if_neg h2]
      by_cases h3 : p < i ∨ l.length - 1 - p < i
      · rw [if_pos h3, if_pos (by omega)]
      · rw [if_neg h3, if_neg (by omega)]
theorem swt_end (l : List UInt8) (i : Nat) (h : ¬ i < l.length - 1 - i) : swt l i = revL l := by
  apply tab_congr
  intro p hp
  by_cases h3 : p < i ∨ l.length - 1 - p < i
  · rw [if_pos h3]
  · rw [if_neg h3]; congr 1; omega
/-- a block that begins with bytes, none of them frozen -/
def BC (w : World) (b : Nat) (T : TypeId) (l : List UInt8) : Prop := ∃ (t : List Value) (z : Nat), w.heap[b]? = some (.cells (l.map bv ++ t).toArray T (z, z + 1)) ∧ l.length ≤ z
section
variable {w : World} {b : Nat} {T : TypeId} {l : List UInt8}
theorem BC.lt (h : BC w b T l) : b < w.heap.size := by
  obtain ⟨t, z, h, _⟩ := h
  exact (Array.getElem?_eq_some_iff.1 h).1
theorem BC.look (h : BC w b T l) (i : Nat) (hi : i < l.length) (c : UInt8) (hc : at_ l i = c) : w.cell? ⟨b, i, none⟩ = some (.int .u8 c.toNat) := by
  obtain ⟨t, z, h, _⟩ := h
  rw [cell_of_row w b i _ T _ h, ← hc, at_eq l i hi]
  simp [hi, bv, List.getElem?_append_left]
theorem BC.frozen (h : BC w b T l) (i : Nat) (hi : i < l.length) : w.frozen? ⟨b, i, none⟩ = false := by
  obtain ⟨t, z, h, hz⟩ := h
  simp [World.frozen?, h]
  omega
theorem BC.drew (h : BC w b T l) : BC w.drew b T l := h
theorem BC.set (h : BC w b T l) (i : Nat) (hi : i < l.length) (c : UInt8) : BC (w.setCell ⟨b, i, none⟩ (.int .u8 c.toNat)) b T (l.set i c) := by
  obtain ⟨t, z, h, hz⟩ := h
  refine ⟨t, z, ?_, by simpa using hz⟩
  simp [World.setCell, Array.getElem?_modify, h, hi, bv]
theorem BC.conv {P : Program} (h : BC w b T l) (src dst : TypeId) (n c : Nat) (hs : P.underlying src = some (.slice T)) (he : P.underlying T = some (.int .u8)) (hd : P.underlying dst = some .string) (hn : l.length = n) :
    (convert src dst (.slice (some ⟨b, 0, none⟩) n c)).run P w = .ok (.string ⟨l.toArray⟩) w := by
  obtain ⟨t, z, h, hz⟩ := h
  rw [run_convert_bytes_string w src dst T _ _ _ hs he hd]
  have hl := run_loadCells_list (P := P) (w := w) ⟨b, 0, none⟩ (l.map bv) (fun j v hj => by
    have e : (⟨b, 0, none⟩ : Addr).add j = ⟨b, j, none⟩ := by unfold Addr.add; split <;> simp_all
    rw [e, cell_of_row w b j _ T _ h]
    have hj' : j < (l.map bv).length := (List.getElem?_eq_some_iff.1 hj).1
    simp only [List.getElem?_toArray]
    rw [List.getElem?_append_left hj']
    exact hj)
  rw [List.length_map, hn] at hl
  have e : l.map bv = (l.map fun c => (c.toNat : Int)).map (Value.int .u8) := by simp [bv, Function.comp_def]
  rw [run_bytesToString w ⟨b, 0, none⟩ n c (l.map fun c => (c.toNat : Int)) (by rw [hl, e])]
  rw [push_all, show ByteArray.empty.data = #[] from rfl, Array.empty_append]
end
theorem BC.new (w : World) (T : TypeId) (s : ByteArray) : BC (Lib.bytesWorld w T s) w.heap.size T s.data.toList := by
  refine ⟨List.replicate (grownCap w s.size 0 T - s.size) (.int .u8 0), (Lib.bytesCells w T s).size, ?_, ?_⟩
  · rw [Lib.bytesWorld_at_new]
    congr 2
    unfold Lib.bytesCells
    apply Array.ext'
    simp [bv]
  · simp [Lib.bytesCells]
theorem bytes_below (w : World) (T : TypeId) (s : ByteArray) (B : Nat) (hB : B ≤ w.heap.size) : Below B w (Lib.bytesWorld w T s) := by
  refine ⟨?_, ?_, ?_, by rw [Lib.bytesWorld_size]; omega, fun k hk => Lib.bytesWorld_at_old w T s k (by omega)⟩ <;> (simp [Lib.bytesWorld, World.freeze]; try rfl)
theorem swt_mid (l : List UInt8) (k p : Nat) (hp : p < l.length) (h : ¬ (p < k ∨ l.length - 1 - p < k)) : at_ (swt l k) p = at_ l p := by
  unfold swt
  rw [at_tab _ _ _ hp, if_neg h]
set_option maxHeartbeats 1000000 in
theorem reverse_bytes (b cap : Nat) (l : List UInt8) (w : World) (h1 : 1 ≤ l.length) (h2 : l.length ≤ 255) (r1 : BC w b 5 l) (B : Nat) (hB : B ≤ b) :
    Calls Try.prog 92 #[.slice (some ⟨b, 0, none⟩) l.length cap] w fun e w' => e = .returned (.tuple #[]) ∧ BC w' b 5 (revL l) ∧ Below B w w' := by
  have R1 := Lib.hid r1
  clear r1
  go_enter Try.func92, Try.ntmps92
  go_wp2_with fail
  go_loopw [2, 3] (fun i j wr => ∃ k : Nat, k ≤ l.length ∧ i = .int .i64 (k : Int) ∧ j = .int .i64 ((l.length : Int) - 1 - k) ∧ BC wr b 5 (swt l k) ∧ Below B w wr) (fun i _ _ => l.length - (intOf i).toNat)
  case atStart => exact ⟨0, Nat.zero_le _, rfl, by simp, by rw [swt_zero]; exact R1.out, Below.refl _ _⟩
  case round =>
    obtain ⟨k, hk, rfl, rfl, r1, hwr⟩ := hrel
    by_cases hlt : k < l.length - 1 - k
    · obtain ⟨m, hm⟩ : ∃ m, l.length - 1 - k = m := ⟨_, rfl⟩
      have hm' : (l.length : Int) - 1 - k = (m : Int) := by omega
      rw [hm']
      have c1 := r1.look k (by rw [swt_length]; omega) (at_ l k) (swt_mid l k k (by omega) (by omega))
      have c2 := r1.look m (by rw [swt_length]; omega) (at_ l m) (swt_mid l k m (by omega) (by omega))
      have f1 := r1.frozen k (by rw [swt_length]; omega)
      have f2 := r1.frozen m (by rw [swt_length]; omega)
      have R2 := (r1.drew.set k (by rw [swt_length]; omega) (at_ l m)).set m (by rw [List.length_set, swt_length]; omega) (at_ l k)
      have E2 := swt_step l k (by omega)
      rw [hm] at E2
      rw [E2] at R2
      have g1 : k < m := by omega
      have g2 : m < l.length := by omega
      have g3 : k < l.length := by omega
      have g4 : (m : Int) + k = l.length - 1 := by omega
      have R2 := Lib.hid R2
      clear E2
      generalize at_ l m = cm at *
      generalize at_ l k = ck at *
      go_wp2_with fail
      go_region
      go_wp2
      go_roundw
      case rel => exact ⟨k + 1, by omega, by go_num, by go_num, R2.out, (hwr.drew.setCell hB _).setCell hB _⟩
      case measure => simp [intOf]; omega
    · have E := Lib.hid (swt_end l k hlt)
      have hd : decide ((k : Int) < (l.length : Int) - 1 - k) = false := by simp; omega
      go_wp2
      go_end0
      exact ⟨rfl, by rw [← E.out]; exact r1, hwr⟩
set_option maxHeartbeats 1000000 in
theorem rev_impl (s : ByteArray) (w : World) (hs : sv s.data.toList = true) :
    Calls Try.prog 52 #[.string s] w fun e w' => e = .returned (.tuple #[.string (bs (revL s.data.toList)), .bool true]) ∧ Below w.heap.size w w' := by
  obtain ⟨h1, h2, _⟩ := sv_yes hs
  have C0 := Lib.hid fun w => seq_impl s w (by unfold maxLen; rw [size_list] at h2; omega)
  have hcv := Lib.run_convert_string_bytes (P := Try.prog) w 9 22 5 s Try.underlying9 Try.underlying22 Try.underlying5
  have r1 := BC.new w 5 s
  have hb := bytes_below w 5 s w.heap.size (Nat.le_refl _)
  generalize Lib.bytesWorld w 5 s = w1 at *
  generalize grownCap w s.size 0 5 = cap at *
  have C1 := Lib.hid (reverse_bytes w.heap.size cap s.data.toList w1 h1 h2 r1 w.heap.size (Nat.le_refl _))
  rw [size_list] at C1
  go_enter Try.func52, Try.ntmps52
  go_wp2_with fail
  refine (C0.out _).mono ?_
  rintro e w2 ⟨rfl, rfl⟩
  go_wp2_with fail
  refine C1.out.mono ?_
  rintro e w2 ⟨rfl, r2, hb2⟩
  have hcv2 := r2.conv (P := Try.prog) 22 9 s.size cap Try.underlying22 Try.underlying5 Try.underlying9 (by rw [revL_length, size_list])
  clear hcv
  go_wp2
  go_ret2
  exact ⟨rfl, hb.trans hb2⟩
theorem rev_impl_no (s : ByteArray) (w : World) (hl : s.size ≤ maxLen) (hs : sv s.data.toList = false) :
    Calls Try.prog 52 #[.string s] w fun e w' => e = .returned (.tuple #[.string ⟨#[]⟩, .bool false]) ∧ Below w.heap.size w w' := by
  have C0 := Lib.hid fun w => seq_impl s w hl
  go_enter Try.func52, Try.ntmps52
  go_wp2_with fail
  refine (C0.out _).mono ?_
  rintro e w1 ⟨rfl, rfl⟩
  go_wp2
  go_ret2
  exact ⟨rfl, Below.refl _ _⟩
end Go.Proofs.Ytibnlaphkmnhfaa
