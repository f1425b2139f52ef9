/- What the functions of package crc and of its reference come to, each once: behind 'run'. -/
import Derived.Test.YtckgmofgcddnaaaCrcWalks
namespace Go.Proofs.Ytckgmofgcddnaaa
open Go.RowKit

theorem runW_below (w : World) : Below w.heap.size w (runW w) := by
  unfold runW halfW
  exact (((Below.refl _ _).alloc (Nat.le_refl _) _).alloc (by simp) _).alloc (by simp; omega) _
/-- The bytes of strings, one behind the other. -/
def flat (l : List ByteArray) : List UInt8 := (l.map fun s => s.data.toList).flatten
theorem flat_snoc (l : List ByteArray) (s : ByteArray) : flat (l ++ [s]) = flat l ++ s.data.toList := by simp [flat]
theorem flat_take_succ (l : List ByteArray) (k : Nat) (h : k < l.length) : flat (l.take (k + 1)) = flat (l.take k) ++ (l[k]).data.toList := by
  rw [List.take_succ_eq_append_getElem h, flat_snoc]
theorem xorfull (r : Nat) (h : r < 4294967296) : bits .xor .u32 (r : Int) 4294967295 = ((r ^^^ 4294967295 : Nat) : Int) := u32_xor_nat r 4294967295 h (by decide)
set_option maxHeartbeats 400000 in
theorem sum_any (b off c : Nat) (l : List ByteArray) (w : World) (hc : ∀ j, j < l.length → w.cell? ⟨b, off + j, none⟩ = some (.string (l.getD j ByteArray.empty))) (hl : ∀ s ∈ l, s.size ≤ maxLen) (hm : l.length ≤ 9223372036854775807) (hb : b < w.heap.size) :
    Calls Try.prog 11 #[.slice (some ⟨b, off, none⟩) l.length c] w fun e w' => e = .returned (.int .i64 (crcSum (flat l) : Nat)) ∧ Below w.heap.size w w' := by
  go_enter Try.func11, Try.ntmps11
  go_wp2_with fail
  go_loopw [3, 5, 8] (fun x _ i wr => ∃ k : Nat, k ≤ l.length ∧ i = .int .i64 k ∧ x = .int .u32 (crcRun 4294967295 (flat (l.take k)) : Nat) ∧ Below w.heap.size w wr) (fun _ _ i _ => l.length - (intOf i).toNat)
  case atStart => exact ⟨0, Nat.zero_le _, rfl, rfl, Below.refl _ _⟩
  case round =>
    obtain ⟨k, hk, rfl, rfl, hbel⟩ := hrel
    by_cases hlt : k < l.length
    · have hcell : wr.cell? ⟨b, off + k, none⟩ = some (.string (l.getD k ByteArray.empty)) := (hbel.cell (p := ⟨b, off + k, none⟩) hb).trans (hc k hlt)
      obtain ⟨s, hs⟩ : ∃ s, s = l.getD k ByteArray.empty := ⟨_, rfl⟩
      have hs2 : s = l[k] := by rw [hs]; simp [hlt]
      have hsz : s.size ≤ maxLen := by rw [hs2]; exact hl _ (List.getElem_mem _)
      have HN : Hid (crcRun 4294967295 (flat (l.take (k + 1))) = crcRun (crcRun 4294967295 (flat (l.take k))) s.data.toList) := by rw [Hid, flat_take_succ l k hlt, crcRun_append, hs2]
      have hR := crcRun_lt (flat (l.take k)) 4294967295 (by decide)
      rw [← hs] at hcell
      clear hs hs2 hc hl
      go_wp2_with (go_at_call 36; refine (run_any _ _ _ hR hsz).mono ?_; rintro e w' ⟨rfl, rfl⟩)
      go_roundw
      case rel => exact ⟨k + 1, by omega, by go_num, by rw [HN.out], hbel.trans ((runW_below wr).mono hbel.size)⟩
      case measure => simp [intOf]; omega
    · have hR := crcRun_lt (flat l) 4294967295 (by decide)
      have hX := xorfull _ hR
      have hB := xor_lt32 _ 4294967295 hR (by decide)
      have e : l.take k = l := List.take_of_length_le (by omega)
      rw [e]
      clear hc
      go_wp2
      go_ret
      exact ⟨rfl, hbel⟩
theorem i64_xor_nat (a b : Nat) (ha : a < 4294967296) (hb : b < 4294967296) : bits .xor .i64 (a : Int) (b : Int) = ((a ^^^ b : Nat) : Int) := by
  have hx := xor_lt32 a b ha hb
  show IntKind.i64.wrap ((BitVec.ofInt 64 (a : Int) ^^^ BitVec.ofInt 64 (b : Int)).toNat : Int) = _
  rw [BitVec.toNat_xor, ofInt_u64 a (by omega), ofInt_u64 b (by omega), IntKind.wrap_i64]
  omega
theorem half1_odd64 (r : Nat) (h : r < 4294967296) (t : ((r : Int) % 2 == 1) = true) : bits .xor .i64 ((r : Int) / 2) 3988292384 = ((half1 r : Nat) : Int) := by
  have t2 : r % 2 = 1 := by have := eq_of_beq t; omega
  have := i64_xor_nat (r / 2) 3988292384 (by omega) (by decide)
  unfold half1
  rw [if_pos t2, ← this]
  rfl
theorem half1_eve64 (r : Nat) (t : ((r : Int) % 2 == 1) = false) : ((r : Int) / 2) = ((half1 r : Nat) : Int) := by
  have t2 : ¬ r % 2 = 1 := by
    intro e
    have : (r : Int) % 2 = 1 := by omega
    rw [this] at t
    simp at t
  unfold half1
  rw [if_neg t2]
  rfl
set_option maxHeartbeats 400000 in
theorem step_any (r : Nat) (w : World) (hr : r < 4294967296) :
    Calls Try.prog 37 #[.int .i64 r] w fun e w' => e = .returned (.int .i64 (halfs 8 r : Nat)) ∧ w = w' := by
  go_enter Try.func37, Try.ntmps37
  go_wp2
  go_loop [0, 3, 4] (fun x i _ => ∃ k : Nat, k ≤ 8 ∧ i = .int .i64 k ∧ x = .int .i64 (halfs k r : Nat)) (fun _ i _ => 8 - (intOf i).toNat)
  case atStart => exact ⟨0, Nat.zero_le _, rfl, rfl⟩
  case round =>
    obtain ⟨k, hk, rfl, rfl⟩ := hrel
    by_cases hlt : k < 8
    · have hb := halfs_lt k r hr
      go_wp2
      · go_round
        case rel => exact ⟨k + 1, by omega, by go_num, int_eq (half1_odd64 _ hb ‹_›)⟩
        case measure => simp [intOf]; omega
      · go_round
        case rel => exact ⟨k + 1, by omega, by go_num, int_eq (half1_eve64 _ ‹_›)⟩
        case measure => simp [intOf]; omega
    · obtain rfl : k = 8 := by omega
      go_wp2
      go_ret
      exact ⟨rfl, rfl⟩

theorem xorfull64 (r : Nat) (h : r < 4294967296) : bits .xor .i64 (r : Int) 4294967295 = ((r ^^^ 4294967295 : Nat) : Int) := i64_xor_nat r 4294967295 h (by decide)
set_option maxHeartbeats 400000 in
theorem refmore_out (n : Int) (s : ByteArray) (w : World) (h : n < 0 ∨ 4294967295 < n) :
    Calls Try.prog 14 #[.int .i64 n, .string s] w fun e w' => e = .returned (.int .i64 0) ∧ w = w' := by
  by_cases h0 : n < 0
  · go_enter Try.func14, Try.ntmps14
    go_wp2
    go_ret
    exact ⟨rfl, rfl⟩
  · have h1 : 4294967295 < n := by omega
    clear h
    go_enter Try.func14, Try.ntmps14
    go_wp2
    go_ret
    exact ⟨rfl, rfl⟩
set_option maxHeartbeats 400000 in
theorem refmore_in (n : Nat) (s : ByteArray) (w : World) (hn : n < 4294967296) (hs : s.size ≤ maxLen) :
    Calls Try.prog 14 #[.int .i64 n, .string s] w fun e w' => e = .returned (.int .i64 (crcMore n s.data.toList : Nat)) ∧ w = w' := by
  unfold maxLen at hs
  have hx := xorfull64 n hn
  have hxb := xor_lt32 n 4294967295 hn (by decide)
  go_enter Try.func14, Try.ntmps14
  go_wp2
  go_loop [5, 6] (fun x i => ∃ k : Nat, k ≤ s.size ∧ i = .int .i64 k ∧ x = .int .i64 (crcRun (n ^^^ 4294967295) (s.data.toList.take k) : Nat)) (fun _ i => s.size - (intOf i).toNat)
  case atStart => exact ⟨0, Nat.zero_le _, rfl, rfl⟩
  case round =>
    clear hx
    obtain ⟨k, hk, rfl, rfl⟩ := hrel
    by_cases hlt : k < s.size
    · obtain ⟨R, hR⟩ : ∃ R, R = crcRun (n ^^^ 4294967295) (s.data.toList.take k) := ⟨_, rfl⟩
      have HN : Hid (halfs 8 (R ^^^ s[k].toNat) = crcRun (n ^^^ 4294967295) (s.data.toList.take (k + 1))) := by rw [Hid, data_take_succ s k hlt, crcRun_snoc, ← hR]
      have hb : R < 4294967296 := by rw [hR]; exact crcRun_lt _ _ hxb
      have hcb := byte_lt s[k]
      rw [← hR]
      clear hR
      have hx1 : bits .xor .i64 (R : Int) (s[k].toNat : Int) = ((R ^^^ s[k].toNat : Nat) : Int) := i64_xor_nat _ _ hb (by omega)
      have hxc : R ^^^ s[k].toNat < 4294967296 := xor_lt32 _ _ hb (by omega)
      go_wp2_with (go_at_call 37; refine (step_any _ _ hxc).mono ?_; rintro e w' ⟨rfl, rfl⟩)
      go_round
      case rel => exact ⟨k + 1, by omega, by go_num, by rw [HN.out]⟩
      case measure => simp [intOf]; omega
    · have e : s.data.toList.take k = s.data.toList := List.take_of_length_le (by simp; omega)
      rw [e]
      have hR := crcRun_lt s.data.toList _ hxb
      have hX := xorfull64 _ hR
      go_wp2
      go_ret
      exact ⟨rfl, rfl⟩
set_option maxHeartbeats 400000 in
theorem refsum_any (s : ByteArray) (w : World) (hs : s.size ≤ maxLen) :
    Calls Try.prog 12 #[.string s] w fun e w' => e = .returned (.int .i64 (crcSum s.data.toList : Nat)) ∧ w = w' := by
  rw [← crcMore_zero]
  go_enter Try.func12, Try.ntmps12
  go_wp2_with (go_at_call 14; refine (refmore_in 0 _ _ (by decide) hs).mono ?_; rintro e w' ⟨rfl, rfl⟩)
  go_ret
  exact ⟨rfl, rfl⟩
set_option maxHeartbeats 400000 in
theorem more_out (n : Int) (s : ByteArray) (w : World) (h : n < 0 ∨ 4294967295 < n) :
    Calls Try.prog 13 #[.int .i64 n, .string s] w fun e w' => e = .returned (.int .i64 0) ∧ w = w' := by
  by_cases h0 : n < 0
  · go_enter Try.func13, Try.ntmps13
    go_wp2
    go_ret
    exact ⟨rfl, rfl⟩
  · have h1 : 4294967295 < n := by omega
    clear h
    go_enter Try.func13, Try.ntmps13
    go_wp2
    go_ret
    exact ⟨rfl, rfl⟩
set_option maxHeartbeats 400000 in
theorem more_in (n : Nat) (s : ByteArray) (w : World) (hn : n < 4294967296) (hs : s.size ≤ maxLen) :
    Calls Try.prog 13 #[.int .i64 n, .string s] w fun e w' => e = .returned (.int .i64 (crcMore n s.data.toList : Nat)) ∧ runW w = w' := by
  have hx := xorfull n hn
  have hxb := xor_lt32 n 4294967295 hn (by decide)
  have hR := crcRun_lt s.data.toList _ hxb
  have hX := xorfull _ hR
  have hB := xor_lt32 _ 4294967295 hR (by decide)
  go_enter Try.func13, Try.ntmps13
  go_wp2_with (go_at_call 36; refine (run_any _ _ _ hxb hs).mono ?_; rintro e w' ⟨rfl, rfl⟩)
  go_ret
  exact ⟨rfl, rfl⟩
end Go.Proofs.Ytckgmofgcddnaaa
