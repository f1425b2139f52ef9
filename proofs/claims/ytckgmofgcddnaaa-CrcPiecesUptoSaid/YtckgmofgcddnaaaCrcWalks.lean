/- What the functions of package crc and of its reference come to, each once. -/
import Derived.Test.YtckgmofgcddnaaaRows
import Derived.Test.YtckgmofgcddnaaaCrcMath
import Derived.WalkKit
import Derived.WalkSpells
import Derived.WalkLawsBesides
import Derived.Lib.Hide
import Derived.Deep.WholeRow
namespace Go.Proofs.Ytckgmofgcddnaaa
open Go.RowKit

theorem and1_u32 (r : Nat) (h : r < 4294967296) : bits .and .u32 (r : Int) 1 = ((r % 2 : Nat) : Int) := by
  have := u32_and_nat r 1 h (by decide)
  rw [nat_mask1] at this
  exact this
theorem half1_odd (r : Nat) (h : r < 4294967296) (t : (bits .and .u32 (r : Int) 1 == 1) = true) : bits .xor .u32 ((r : Int) / 2) 3988292384 = ((half1 r : Nat) : Int) := by
  rw [and1_u32 r h] at t
  have t2 : r % 2 = 1 := by have := eq_of_beq t; omega
  have := u32_xor_nat (r / 2) 3988292384 (by omega) (by decide)
  unfold half1
  rw [if_pos t2, ← this]
  rfl
theorem half1_eve (r : Nat) (h : r < 4294967296) (t : (bits .and .u32 (r : Int) 1 == 1) = false) : ((r : Int) / 2) = ((half1 r : Nat) : Int) := by
  rw [and1_u32 r h] at t
  have t2 : ¬ r % 2 = 1 := by
    intro e
    rw [e] at t
    simp at t
  unfold half1
  rw [if_neg t2]
  rfl
theorem int_eq {k : IntKind} {a b : Int} (h : a = b) : Value.int k a = Value.int k b := by rw [h]

/-- The array of the half steps, as far as it is filled. -/
def part (k : Nat) : Array Value := ((List.range 16).map fun j => Value.int .u32 (if j < k then (halfs 4 j : Int) else 0)).toArray
theorem part_size (k : Nat) : (part k).size = 16 := by simp [part]
theorem part_get (k j : Nat) (h : j < 16) : (part k)[j]? = some (.int .u32 (if j < k then (halfs 4 j : Int) else 0)) := by
  simp [part, h]
theorem part_set (k : Nat) : (part k).setIfInBounds k (.int .u32 (halfs 4 k : Int)) = part (k + 1) := by
  apply Array.ext
  · simp [part]
  · intro i h1 h2
    have hi : i < 16 := by simpa [part] using h2
    rw [Array.getElem_setIfInBounds (by simpa [part] using hi)]
    simp only [part, List.getElem_toArray, List.getElem_map, List.getElem_range]
    by_cases e : k = i
    · subst e; simp
    · rw [if_neg e]
      by_cases e2 : i < k
      · rw [if_pos e2, if_pos (by omega)]
      · rw [if_neg e2, if_neg (by omega)]
theorem part_one (k : Nat) : (part k).all (·.oneCell') = true := by
  rw [Array.all_eq_true_iff_forall_mem]
  intro x hx
  simp only [part, List.mem_toArray, List.mem_map] at hx
  obtain ⟨j, _, rfl⟩ := hx
  rfl
theorem size80 : (Try.prog.info? 80).map (·.size) = some 16 := by kernel_rfl
theorem info80 (k : Nat) : (Try.prog.info? 80).map (·.size) = some (part k).size := by rw [part_size]; exact size80
/-- The world behind 'half'. -/
def halfW (w : World) : World := (w.alloc (.cells (part 16) 80)).alloc (.cells (part 16) 80)

theorem half_setRow (w : World) : ((w.alloc (.cells (part 0) 80)).alloc (.cells (part 16) 80)).setRow w.heap.size (part 16) = halfW w := by
  unfold halfW
  simp only [World.setRow, World.alloc]
  congr 1
  apply Array.ext_getElem?
  intro i
  rw [Array.getElem?_modify]
  by_cases h : w.heap.size = i
  · subst h
    simp [Array.getElem?_push]
  · have h' : ¬ i = w.heap.size := fun e => h e.symm
    simp [h, h', Array.getElem?_push]
set_option maxHeartbeats 400000 in
theorem half_any (w : World) :
    Calls Try.prog 52 #[] w fun e w' => e = .returned (.agg (part 16)) ∧ halfW w = w' := by
  go_enter Try.func52, Try.ntmps52
  go_wp2
  go_loopw [4] (fun n wr => ∃ k : Nat, k ≤ 16 ∧ n = .int .u32 k ∧ wr = (w.alloc (.cells (part 0) 80)).alloc (.cells (part k) 80)) (fun n _ => 16 - (intOf n).toNat)
  case atStart => exact ⟨0, by omega, rfl, rfl⟩
  case round =>
    obtain ⟨k, hk, rfl, rfl⟩ := hrel
    by_cases hlt : k < 16
    · go_wp2
      go_loop [3, 8] (fun r j => ∃ i : Nat, i ≤ 4 ∧ j = .int .i64 i ∧ r = .int .u32 (halfs i k)) (fun _ j => 4 - (intOf j).toNat)
      case atStart => exact ⟨0, by omega, rfl, rfl⟩
      case round =>
        obtain ⟨i, hi, rfl, rfl⟩ := hrel
        have hb := halfs_lt i k (by omega)
        have hg := part_get k k hlt
        go_wp2
        · go_round
          case rel => exact ⟨i + 1, by omega, by go_num, int_eq (half1_odd _ hb ‹_›)⟩
          case measure => simp [intOf]; omega
        · go_round
          case rel => exact ⟨i + 1, by omega, by go_num, int_eq (half1_eve _ hb ‹_›)⟩
          case measure => simp [intOf]; omega
        · have hi4 : i = 4 := by omega
          subst hi4
          go_roundw
          case rel => exact ⟨k + 1, by omega, by go_num, by rw [part_set k]⟩
          case measure => simp [intOf]; omega
    · have hk16 : k = 16 := by omega
      subst hk16
      go_wp2_with (first | (refine wpList_load_row rfl 80 _ rfl (w.heap.size + 1) rfl 80 (part 16) (0, 0) _ (heap_alloc2_new w _ _) Try.underlying80 rfl (info80 16) ?_) | (refine wpList_store_row rfl 80 _ _ rfl w.heap.size (part 16) rfl rfl 80 (part 0) (heap_alloc2_old w _ _) (info80 16) (by rw [part_size, part_size]) (part_one 16) ?_))
      exact bodyPost_ret (v := .agg (part 16)) (results_cell_row rfl _ _ w.heap.size 80 (part 16) (0, 0) _ rfl (by rw [half_setRow]; exact heap_alloc2_old w _ _) Try.underlying80 rfl (info80 16)) rfl ⟨rfl, (half_setRow w).symm⟩

/-- The world behind 'run'. -/
def runW (w : World) : World := (halfW w).alloc (.cells (part 16) 80)
theorem run_cell (w : World) (i : Nat) (h : i < 16) : (runW w).cell? ⟨(halfW w).heap.size, i, none⟩ = some (.int .u32 (halfs 4 i : Nat)) := by
  rw [runW, cell_of_row _ _ i (part 16) 80 (0, 0) (heap_alloc_new _ _), part_get 16 i h, if_pos h]
theorem and15_u32 (r : Nat) (h : r < 4294967296) : bits .and .u32 (r : Int) 15 = ((r % 16 : Nat) : Int) := by
  have := u32_and_nat r 15 h (by decide)
  rw [nat_mask4] at this
  exact this
theorem xor16_u32 (r t : Nat) (h : r < 4294967296) (ht : t < 4294967296) : bits .xor .u32 ((r : Int) / 16) (t : Int) = ((r / 16 ^^^ t : Nat) : Int) := by
  have := u32_xor_nat (r / 16) t (by omega) ht
  rw [← this]
  rfl
theorem data_take_succ (s : ByteArray) (k : Nat) (h : k < s.size) : s.data.toList.take (k + 1) = s.data.toList.take k ++ [s[k]] := by
  rw [List.take_succ_eq_append_getElem (by simpa using h)]; rfl
set_option maxHeartbeats 400000 in
theorem run_any (r : Nat) (s : ByteArray) (w : World) (hr : r < 4294967296) (hs : s.size ≤ maxLen) :
    Calls Try.prog 36 #[.int .u32 r, .string s] w fun e w' => e = .returned (.int .u32 (crcRun r s.data.toList)) ∧ runW w = w' := by
  unfold maxLen at hs
  go_enter Try.func36, Try.ntmps36
  go_wp2_with (first | (go_at_call 52; refine (half_any _).mono ?_; rintro e w' ⟨rfl, rfl⟩) | (refine wpList_store_row rfl 80 _ _ rfl (halfW w).heap.size (part 16) rfl rfl 80 _ (heap_alloc_new _ _) (info80 16) (by rw [part_size]; rfl) (part_one 16) ?_; rw [World.setRow_alloc_new]))
  go_loop [0, 6, 10] (fun x _ i => ∃ k : Nat, k ≤ s.size ∧ i = .int .i64 k ∧ x = .int .u32 (crcRun r (s.data.toList.take k) : Nat)) (fun _ _ i => s.size - (intOf i).toNat)
  case atStart => exact ⟨0, Nat.zero_le _, rfl, rfl⟩
  case round =>
    obtain ⟨k, hk, rfl, rfl⟩ := hrel
    by_cases hlt : k < s.size
    · obtain ⟨R, hR⟩ : ∃ R, R = crcRun r (s.data.toList.take k) := ⟨_, rfl⟩
      have HN : Hid (halfs 8 (R ^^^ s[k].toNat) = crcRun r (s.data.toList.take (k + 1))) := by rw [Hid, data_take_succ s k hlt, crcRun_snoc, ← hR]
      have hb : R < 4294967296 := by rw [hR]; exact crcRun_lt _ _ hr
      have hcb := byte_lt s[k]
      rw [← hR]
      clear hR
      obtain ⟨X, hX⟩ : ∃ X, X = R ^^^ s[k].toNat := ⟨_, rfl⟩
      have hXb : X < 4294967296 := by rw [hX]; exact xor_lt32 _ _ hb (by omega)
      have hx1 : bits .xor .u32 (R : Int) (s[k].toNat : Int) = (X : Int) := by rw [hX]; exact u32_xor_nat _ _ hb (by omega)
      obtain ⟨Y, hY⟩ : ∃ Y, Y = halfs 4 X := ⟨_, rfl⟩
      have hYb : Y < 4294967296 := by rw [hY]; exact halfs_lt _ _ hXb
      obtain ⟨Z, hZ⟩ : ∃ Z, Z = halfs 4 Y := ⟨_, rfl⟩
      have HZ : Hid (Z = crcRun r (s.data.toList.take (k + 1))) := by rw [Hid, ← HN.out, halfs8, ← hX, ← hY, hZ]
      clear HN hX
      obtain ⟨I, hI⟩ : ∃ I, I = X % 16 := ⟨_, rfl⟩
      obtain ⟨J, hJ⟩ : ∃ J, J = Y % 16 := ⟨_, rfl⟩
      have hI16 : I < 16 := by omega
      have hJ16 : J < 16 := by omega
      have hx2 : bits .and .u32 (X : Int) 15 = (I : Int) := by rw [hI]; exact and15_u32 _ hXb
      have hx4 : bits .and .u32 (Y : Int) 15 = (J : Int) := by rw [hJ]; exact and15_u32 _ hYb
      have hx3 : bits .xor .u32 ((X : Int) / 16) ((halfs 4 I : Nat) : Int) = (Y : Int) := by rw [hY, halfs4 X, ← hI]; exact xor16_u32 _ _ hXb (halfs_lt _ _ (by omega))
      have hx5 : bits .xor .u32 ((Y : Int) / 16) ((halfs 4 J : Nat) : Int) = (Z : Int) := by rw [hZ, halfs4 Y, ← hJ]; exact xor16_u32 _ _ hYb (halfs_lt _ _ (by omega))
      clear hI hJ hY hZ
      have hc1 := run_cell w I hI16
      have hc2 := run_cell w J hJ16
      unfold runW at hc1 hc2
      go_wp2
      go_round
      case rel => exact ⟨k + 1, by omega, by go_num, by rw [HZ.out]⟩
      case measure => simp [intOf]; omega
    · have e : s.data.toList.take k = s.data.toList := List.take_of_length_le (by simp; omega)
      rw [e]
      go_wp2
      go_ret
      exact ⟨rfl, rfl⟩
end Go.Proofs.Ytckgmofgcddnaaa
