/- The digits of a small number, as the reference writes them. -/
import Derived.Test.YtgdnmhigjhfpkaaDoorWReg
import Derived.Test.YtgdnmhigjhfpkaaDoorWMake
import Derived.Lib.ItoaMem
import Derived.StillTailTactics
namespace Go.Proofs.YtgdnmhigjhfpkaaDoor
open Go.RowKit SS
set_option maxRecDepth 100000
theorem bytes_cons (c : UInt8) (q : List UInt8) : (⟨[c].toArray⟩ : ByteArray) ++ ⟨q.toArray⟩ = ⟨(c :: q).toArray⟩ := by
  apply ByteArray.ext
  simp
theorem bytes_size (q : List UInt8) : (⟨q.toArray⟩ : ByteArray).size = q.length := by simp [ByteArray.size]
theorem digit_char (k : Nat) (h : k < 10) : ∃ c : UInt8, c = UInt8.ofNat (48 + k) ∧ ((c.toNat : Nat) : Int) = 48 + (k : Int) := by
  refine ⟨_, rfl, ?_⟩
  rw [UInt8.toNat_ofNat', Nat.mod_eq_of_lt (by omega)]
  omega
theorem digits_more (m : Nat) (h : ¬ m < 10) : Lib.decDigits m = Lib.decDigits (m / 10) ++ [UInt8.ofNat (48 + m % 10)] := by
  rw [Lib.decDigits, dif_neg h]
set_option maxHeartbeats 2000000 in
theorem dec_num (n : Nat) (w : World) (hn : n < 100000) :
    Calls Tryd.prog 16 #[.int .i64 n] w fun e w' => e = .returned (.string ⟨(Lib.decDigits n).toArray⟩) ∧ Below w.heap.size w w' := by
  have d1 : decide ((n : Int) < -9223372036854775807) = false := decide_eq_false (by omega)
  have d2 : decide ((n : Int) < 0) = false := by simp
  have HW := Lib.hid (Below.refl w.heap.size w)
  go_enter Tryd.func16, Tryd.ntmps16
  go_wp2_with fail
  go_loopw [0, 3] (fun i x wx => ∃ (m : Nat) (q : List UInt8), m ≤ n ∧ i = .int .i64 m ∧ x = .string ⟨q.toArray⟩ ∧ q.length + m ≤ n ∧ Lib.decDigits m ++ q = Lib.decDigits n ∧ Below w.heap.size w wx) (fun i _ _ => (intOf i).toNat)
  case atStart => exact ⟨n, [], Nat.le_refl _, rfl, rfl, by simp, by simp, HW.out⟩
  case round =>
    clear d1 d2 HW
    obtain ⟨m, q, hm, rfl, rfl, hq, he, hb⟩ := hrel
    have HE := Lib.hid he
    have HB := Lib.hid hb
    have hlt := hb.size
    clear he hb
    have hqz := bytes_size q
    by_cases h9 : m < 10
    · have dl : decide (9 < (m : Int)) = false := by simp; omega
      obtain ⟨c, hc, hci⟩ := digit_char m h9
      have r1 : BB (wr.alloc (.cells #[.int .u8 (48 + (m : Int))] 5)) wr.heap.size 5 [c] := by
        have := heap_alloc_new wr (.cells #[.int .u8 (48 + (m : Int))] 5)
        unfold BB bv
        rw [this, ← hci]
        rfl
      have hcv := r1.conv (P := Tryd.prog) 32 9 1 1 Tryd.underlying32 Tryd.underlying5 Tryd.underlying9 rfl
      have hres : Hid ((⟨[c].toArray⟩ : ByteArray) ++ ⟨q.toArray⟩ = ⟨(Lib.decDigits n).toArray⟩) := by
        show _ = _
        rw [bytes_cons, ← HE.out, Lib.decDigits, dif_pos h9, hc]
        rfl
      have hHC := Lib.hid hc
      have hz1 : (⟨[c].toArray⟩ : ByteArray).size = 1 := rfl
      have g1 : ¬ 9223372036854775807 < (⟨[c].toArray⟩ : ByteArray).size + (⟨q.toArray⟩ : ByteArray).size := by rw [hz1, hqz]; omega
      generalize (⟨[c].toArray⟩ : ByteArray) = a at *
      generalize (⟨q.toArray⟩ : ByteArray) = b at *
      have HWW := Lib.hid (HB.out.alloc hlt (.cells #[.int .u8 (48 + (m : Int))] 5))
      clear r1 hc hci hlt hz1 hqz
      go_wp2
      go_ret
      exact ⟨by rw [hres.out]; rfl, HWW.out⟩
    · have dl : decide (9 < (m : Int)) = true := by simp; omega
      obtain ⟨c, hc, hci⟩ := digit_char (m % 10) (Nat.mod_lt _ (by decide))
      rw [show ((m % 10 : Nat) : Int) = (m : Int) % 10 by omega] at hci
      have r1 : BB (wr.alloc (.cells #[.int .u8 (48 + (m : Int) % 10)] 5)) wr.heap.size 5 [c] := by
        have := heap_alloc_new wr (.cells #[.int .u8 (48 + (m : Int) % 10)] 5)
        unfold BB bv
        rw [this, ← hci]
        rfl
      have hcv := r1.conv (P := Tryd.prog) 32 9 1 1 Tryd.underlying32 Tryd.underlying5 Tryd.underlying9 rfl
      have hres : Hid ((⟨[c].toArray⟩ : ByteArray) ++ ⟨q.toArray⟩ = ⟨(c :: q).toArray⟩) := by
        show _ = _
        rw [bytes_cons]
      have HHC := Lib.hid hc
      have hz1 : (⟨[c].toArray⟩ : ByteArray).size = 1 := rfl
      have g1 : ¬ 9223372036854775807 < (⟨[c].toArray⟩ : ByteArray).size + (⟨q.toArray⟩ : ByteArray).size := by rw [hz1, hqz]; omega
      generalize (⟨[c].toArray⟩ : ByteArray) = a at *
      generalize (⟨q.toArray⟩ : ByteArray) = b at *
      have HWW := Lib.hid (HB.out.alloc hlt (.cells #[.int .u8 (48 + (m : Int) % 10)] 5))
      clear r1 hc hci hlt hz1 hqz
      go_wp2
      go_roundw
      case rel =>
        refine ⟨m / 10, c :: q, by omega, by go_num, by rw [hres.out], by simp only [List.length_cons]; omega, ?_, HWW.out⟩
        rw [← HE.out, digits_more m h9, HHC.out]
        simp
      case measure => simp [intOf]; omega
end Go.Proofs.YtgdnmhigjhfpkaaDoor
