/- Contracts of further functions of the laws' own on strings of bits. -/
import Derived.Test.YtgmagocpacpafaaWStrs
namespace Go.Proofs.Ytgmagocpacpafaa
open Go.RowKit SS
set_option maxRecDepth 100000
set_option maxHeartbeats 1000000 in
theorem ssTurned_yes (a : ByteArray) (w : World) (h2 : a.size ≤ 1000) :
    Calls Try.prog 30 #[.string a] w fun e w' => e = .returned (.string (bs (revL a.data.toList))) ∧ Below w.heap.size w w' := by
  obtain ⟨i0, hi, hz0, hz1, hz2⟩ := info_parts infoB
  have hmk := make0 a.size (by omega)
  generalize hM : madeCells #[.int .u8 0] a.size = M at hmk
  have o1 := OwnB.made w a.size (by unfold maxLen; omega)
  rw [hM] at o1
  have O1 := Lib.hid o1
  have hw1 := (Below.refl w.heap.size w).alloc (Nat.le_refl _) (.cells M 5)
  clear o1 hM
  go_enter Try.func30, Try.ntmps30
  go_wp2_with fail
  go_loopw [3, 4] (fun v i wr => ∃ j : Nat, j ≤ a.size ∧ i = .int .i64 ((a.size : Int) - 1 - (j : Int)) ∧ OwnB wr w.heap.size v (tab j (fun i => at_ a.data.toList (a.data.toList.length - 1 - i))) ∧ Below w.heap.size w wr) (fun _ i _ => ((intOf i) + 1).toNat)
  case atStart => exact ⟨0, Nat.zero_le _, by go_num, O1.out, hw1⟩
  case round =>
    clear O1 hw1
    obtain ⟨j, hj, rfl, ho, hwr⟩ := hrel
    have HO := Lib.hid ho
    clear ho
    by_cases hlt : j < a.size
    · have HT : Hid (tab (j + 1) (fun i => at_ a.data.toList (a.data.toList.length - 1 - i)) = tab j (fun i => at_ a.data.toList (a.data.toList.length - 1 - i)) ++ [a[a.size - 1 - j]]) := by
        show _ = _
        rw [← at_ba a (a.size - 1 - j) (by omega)]
        simp [tab, List.range_succ]
      have HLn := Lib.hid (tab_length j (fun i => at_ a.data.toList (a.data.toList.length - 1 - i)))
      have hidx : ((a.size : Int) - 1 - (j : Int)).toNat = a.size - 1 - j := by omega
      have hi0 : (0 : Int) ≤ (a.size : Int) - 1 - (j : Int) := by omega
      have hi1 : (a.size : Int) - 1 - (j : Int) < (a.size : Int) := by omega
      have d1 : decide ((0 : Int) ≤ (a.size : Int) - 1 - (j : Int)) = true := decide_eq_true hi0
      generalize hgl : tab j (fun i => at_ a.data.toList (a.data.toList.length - 1 - i)) = L at HO HT HLn
      clear hgl
      go_wp2_with (at_builtin; refine wpList_append_own _ rfl _ _ 22 rfl w.heap.size 5 i0 (.int .u8 0) 1 1 Try.underlying22 hi hz0 hz1 hz2 rfl (by decide) _ _ _ rfl (HO.out.1.alloc _) ⟨wr.heap.size, 0, none⟩ 1 1 [.int .u8 ((a[a.size - 1 - j].toNat : Nat) : Int)] rfl rfl ?c1 ?c2 ?c3 ?c4 ?c5 ?_)
      case c1 => exact new_byte _ _ _
      case c2 => exact byte_one _
      case c3 => rw [HLn.out]; unfold maxLen; omega
      case c4 => rw [HLn.out]; omega
      case c5 => have := hwr.size; simp; omega
      intro v' w2 ho2 hg2 hnn
      have hw2 := grownU hwr hg2 HO.out.row
      have HN : Hid (OwnB w2 w.heap.size v' (L ++ [a[a.size - 1 - j]])) := OwnB.grow ho2 (by simpa using hnn)
      rw [← HT.out] at HN
      clear ho2 hg2 hnn HO HT
      go_wp2
      go_roundw
      case rel => exact ⟨j + 1, by omega, by go_num, HN.out, hw2⟩
      case measure => simp [intOf]; omega
    · obtain rfl : j = a.size := by omega
      have d1 : decide ((0 : Int) ≤ (a.size : Int) - 1 - (a.size : Int)) = false := decide_eq_false (by omega)
      have hcv := HO.out.conv (P := Try.prog) 22 9 5 Try.underlying22 Try.underlying5 Try.underlying9
      go_wp2
      go_ret
      exact ⟨by rw [revL, size_list]; rfl, hwr⟩
end Go.Proofs.Ytgmagocpacpafaa
