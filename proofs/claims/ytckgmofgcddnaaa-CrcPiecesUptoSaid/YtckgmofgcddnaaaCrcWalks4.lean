/- What the functions of package crc and of its reference come to, each once: the tables and their comparison. -/
import Derived.Test.YtckgmofgcddnaaaCrcWalks3
import Derived.Deep.QuietTactic
import Derived.BigQuiet
namespace Go.Proofs.Ytckgmofgcddnaaa
open Go.RowKit

theorem info3 : (Try.prog.info? 3).map (fun i => (i.zero, i.size, i.bytes)) = some (some (.int .i64 0), 1, 8) := by kernel_rfl
/-- The table, as far as it is filled. -/
def tab (k : Nat) : List Value := (List.range k).map fun j => Value.int .i64 (halfs 8 j : Nat)
theorem tab_length (k : Nat) : (tab k).length = k := by simp [tab]
theorem tab_succ (k : Nat) : tab (k + 1) = tab k ++ [.int .i64 (halfs 8 k : Nat)] := by simp [tab, List.range_succ]
theorem tab_get (k j : Nat) (h : j < k) : (tab k)[j]? = some (.int .i64 (halfs 8 j : Nat)) := by simp [tab, h]
theorem conv1 (w : World) (k : Nat) (h : k < 256) :
    (convert 38 9 (.slice (some ⟨w.heap.size, 0, none⟩) 1 1)).run Try.prog (w.alloc (.cells #[.int .u8 (k : Int)] 5)) =
      .ok (.string ⟨#[UInt8.ofNat k]⟩) (w.alloc (.cells #[.int .u8 (k : Int)] 5)) := by
  refine run_convert_bytes_back (l := [UInt8.ofNat k]) _ 38 9 5 ⟨w.heap.size, 0, none⟩ 1 Try.underlying38 Try.underlying5 Try.underlying9 ?_
  intro j hj
  have hj1 : j = 0 := by simp at hj; omega
  subst hj1
  have e : (⟨w.heap.size, 0, none⟩ : Addr).add 0 = ⟨w.heap.size, 0, none⟩ := by unfold Addr.add; split <;> simp_all
  rw [e, cell_of_row _ _ _ _ 5 (0, 0) (heap_alloc_new _ _)]
  simp [UInt8.toNat_ofNat']
  omega
theorem owns_runW {w : World} {base : Nat} {e : TypeId} {size : Nat} {v : Value} {n : Nat} {xs : List Value} (h : w.ownsRow base e size v n xs) : (runW w).ownsRow base e size v n xs := by
  unfold runW halfW
  exact ((h.alloc _).alloc _).alloc _
theorem run1_any (k : Nat) (w : World) (h : k < 256) :
    Calls Try.prog 36 #[.int .u32 0, .string ⟨#[UInt8.ofNat k]⟩] w fun e w' => e = .returned (.int .u32 (halfs 8 k : Nat)) ∧ runW w = w' := by
  have h1 := run_any 0 ⟨#[UInt8.ofNat k]⟩ w (by decide) (by show 1 ≤ maxLen; decide)
  have e : crcRun 0 [UInt8.ofNat k] = halfs 8 k := by
    show halfs 8 (0 ^^^ (UInt8.ofNat k).toNat) = halfs 8 k
    rw [Nat.zero_xor, UInt8.toNat_ofNat', show k % 2 ^ 8 = k from by omega]
  have e2 : crcRun 0 (ByteArray.mk #[UInt8.ofNat k]).data.toList = halfs 8 k := e
  rw [e2] at h1
  exact h1
/-- A slice of the table's 256 numbers, in new memory. -/
def IsTab (w : World) (e : Ending) (w' : World) : Prop :=
  ∃ g cap, e = .returned (.slice (some ⟨g, 0, none⟩) 256 cap) ∧ w.heap.size ≤ g ∧ g < w'.heap.size ∧ (∀ j, j < 256 → w'.cell? ⟨g, j, none⟩ = some (.int .i64 (halfs 8 j : Nat))) ∧ Below w.heap.size w w'
theorem isTab_of {w w' : World} {v : Value} (h : w'.ownsRow w.heap.size 3 1 v 256 (tab 256)) (hb : Below w.heap.size w w') : IsTab w (.returned v) w' := by
  have hl := h.lt
  rcases h.2 with ⟨_, h0⟩ | ⟨g, cap, cur, rfl, hg, hh, hn, hm, hs, ht⟩
  · omega
  · refine ⟨g, cap, rfl, hg, (hl g rfl).2, fun j hj => ?_, hb⟩
    rw [h.cellAt j (by omega), tab_get 256 j hj]
set_option maxRecDepth 100000 in
set_option maxHeartbeats 400000 in
theorem reftable_any (w : World) : Calls Try.prog 17 #[] w (IsTab w) := by
  obtain ⟨i0, hi, hz0, hz1, hz2⟩ := info_parts info3
  go_enter Try.func17, Try.ntmps17
  go_wp2
  go_loopw [1, 2] (fun v i wr => ∃ k : Nat, k ≤ 256 ∧ i = .int .i64 k ∧ wr.ownsRow w.heap.size 3 1 v k (tab k) ∧ Below w.heap.size w wr) (fun _ i _ => 256 - (intOf i).toNat)
  case atStart => exact ⟨0, Nat.zero_le _, rfl, World.ownsRow_nil _ _ _ _, Below.refl _ _⟩
  case round =>
    obtain ⟨k, hk, rfl, hown, hbel⟩ := hrel
    by_cases hlt : k < 256
    · have hts := tab_succ k
      have HT := Lib.hid hts
      clear hts
      go_wp2_with (first
        | (go_at_call 37; refine (step_any k _ (by omega)).mono ?_; rintro e w' ⟨rfl, rfl⟩)
        | (at_builtin; refine wpList_append_own _ rfl _ _ 26 rfl w.heap.size 3 i0 (.int .i64 0) 1 8 Try.underlying26 hi hz0 hz1 hz2 rfl (by decide) _ _ _ rfl (hown.alloc _) ⟨wr.heap.size, 0, none⟩ 1 1 [.int .i64 (halfs 8 k : Nat)] rfl rfl ?c1 ?c2 ?c3 ?c4 ?c5 ?_))
      case c1 => exact cell_one_new _ _ _
      case c2 => intro u hu; simp at hu; subst hu; rfl
      case c3 => unfold maxLen; omega
      case c4 => omega
      case c5 => have := hbel.size; simp; omega
      · intro v' w1 hown' hgrow _
        have hbel' : Below w.heap.size w w1 := (hbel.alloc hbel.size _).grown hgrow (by have := hbel.size; simp; omega) (fun j hj => (hown.lt j hj).1)
        clear hown hgrow hbel
        go_wp2
        go_roundw
        case rel => exact ⟨k + 1, by omega, by go_num, by rw [HT.out]; exact hown', hbel'⟩
        case measure => simp [intOf]; omega
    · have hk2 : k = 256 := by omega
      rw [hk2] at hown
      have HO := Lib.hid hown
      clear hown hk2
      go_wp2
      go_ret
      exact isTab_of HO.out hbel
set_option maxRecDepth 100000 in
set_option maxHeartbeats 400000 in
theorem table_any (w : World) : Calls Try.prog 16 #[] w (IsTab w) := by
  obtain ⟨i0, hi, hz0, hz1, hz2⟩ := info_parts info3
  go_enter Try.func16, Try.ntmps16
  go_wp2
  go_loopw [1, 2, 3] (fun v _ i wr => ∃ k : Nat, k ≤ 256 ∧ i = .int .i64 k ∧ wr.ownsRow w.heap.size 3 1 v k (tab k) ∧ Below w.heap.size w wr) (fun _ _ i _ => 256 - (intOf i).toNat)
  case atStart => exact ⟨0, Nat.zero_le _, rfl, World.ownsRow_nil _ _ _ _, Below.refl _ _⟩
  case round =>
    obtain ⟨k, hk, rfl, hown, hbel⟩ := hrel
    by_cases hlt : k < 256
    · have hts := tab_succ k
      have HT := Lib.hid hts
      clear hts
      have hcv := conv1 wr k hlt
      have hlt32 := halfs_lt 8 k (by omega)
      have hown3 := owns_runW (hown.alloc (.cells #[.int .u8 (k : Int)] 5))
      have hbel3 : Below w.heap.size w (runW (wr.alloc (.cells #[.int .u8 (k : Int)] 5))) := (hbel.alloc hbel.size _).trans ((runW_below _).mono (by have := hbel.size; simp; omega))
      have hlt3 := hown.lt
      clear hown hbel
      go_wp2_with (first
        | (go_at_call 36; refine (run1_any k _ hlt).mono ?_; rintro e w' ⟨rfl, rfl⟩)
        | (at_builtin; refine wpList_append_own _ rfl _ _ 26 rfl w.heap.size 3 i0 (.int .i64 0) 1 8 Try.underlying26 hi hz0 hz1 hz2 rfl (by decide) _ _ _ rfl (hown3.alloc _) ⟨(runW (wr.alloc (.cells #[.int .u8 (k : Int)] 5))).heap.size, 0, none⟩ 1 1 [.int .i64 (halfs 8 k : Nat)] rfl rfl ?c1 ?c2 ?c3 ?c4 ?c5 ?_))
      case c1 => exact cell_one_new _ _ _
      case c2 => intro u hu; simp at hu; subst hu; rfl
      case c3 => unfold maxLen; omega
      case c4 => omega
      case c5 => have := hbel3.size; simp; omega
      · intro v' w1 hown' hgrow _
        have hbel' : Below w.heap.size w w1 := (hbel3.alloc hbel3.size _).grown hgrow (by have := hbel3.size; simp; omega) (fun j hj => (hlt3 j hj).1)
        clear hown3 hgrow hbel3 hlt3 hcv
        go_wp2
        go_roundw
        case rel => exact ⟨k + 1, by omega, by go_num, by rw [HT.out]; exact hown', hbel'⟩
        case measure => simp [intOf]; omega
    · have hk2 : k = 256 := by omega
      rw [hk2] at hown
      have HO := Lib.hid hown
      clear hown hk2
      go_wp2
      go_ret
      exact isTab_of HO.out hbel

set_option maxRecDepth 100000 in
set_option maxHeartbeats 400000 in
theorem same_any (g c h d : Nat) (w : World) (hg : ∀ j, j < 256 → w.cell? ⟨g, j, none⟩ = some (.int .i64 (halfs 8 j : Nat))) (hh : ∀ j, j < 256 → w.cell? ⟨h, j, none⟩ = some (.int .i64 (halfs 8 j : Nat))) :
    Calls Try.prog 15 #[.slice (some ⟨g, 0, none⟩) 256 c, .slice (some ⟨h, 0, none⟩) 256 d] w fun e w' => e = .returned (.bool true) ∧ Below w.heap.size w w' := by
  go_enter Try.func15, Try.ntmps15
  go_wp2
  go_loopw [5] (fun i wr => ∃ k : Nat, k ≤ 256 ∧ i = .int .i64 k ∧ (∃ n, wr = w.drewN n)) (fun i _ => 256 - (intOf i).toNat)
  case atStart => exact ⟨0, Nat.zero_le _, rfl, 0, rfl⟩
  case round =>
    obtain ⟨k, hk, rfl, n, rfl⟩ := hrel
    by_cases hlt : k < 256
    · have hg1 := hg k hlt
      have hh1 := hh k hlt
      clear hg hh
      go_wp2
      go_quiet (fail)
      go_wp2
      go_roundw
      case rel => exact ⟨k + 1, by omega, by go_num, _, rfl⟩
      case measure => simp [intOf]; omega
    · clear hg hh
      go_wp2
      go_ret
      exact ⟨rfl, below_drewN (Below.refl _ _) n⟩
end Go.Proofs.Ytckgmofgcddnaaa
