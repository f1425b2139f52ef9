/- What the functions of package crc and of its reference come to, each once: a sum's bytes, the tables, Seal, Open. -/
import Derived.Test.YtckgmofgcddnaaaCrcWalks2
import Derived.Laws.IdiomStrings
import Derived.Deep.RegionWith
import Derived.Lib.IndexBytes
namespace Go.Proofs.Ytckgmofgcddnaaa
open Go.RowKit

theorem conv4 (w : World) (t : TypeId) (n : Nat) (d : Int) (hd : d = ((n / 16777216 % 256 : Nat) : Int)) :
    (convert 38 9 (.slice (some ⟨w.heap.size, 0, none⟩) 4 4)).run Try.prog (w.alloc (.cells #[.int .u8 ((n : Int) % 256), .int .u8 ((n : Int) / 256 % 256), .int .u8 ((n : Int) / 65536 % 256), .int .u8 d] t)) =
      .ok (.string ⟨(sumBytes n).toArray⟩) (w.alloc (.cells #[.int .u8 ((n : Int) % 256), .int .u8 ((n : Int) / 256 % 256), .int .u8 ((n : Int) / 65536 % 256), .int .u8 d] t)) := by
  refine run_convert_bytes_back (l := sumBytes n) _ 38 9 5 ⟨w.heap.size, 0, none⟩ 4 Try.underlying38 Try.underlying5 Try.underlying9 ?_
  intro j hj
  have hj4 : j < 4 := hj
  have e : (⟨w.heap.size, 0, none⟩ : Addr).add j = ⟨w.heap.size, j, none⟩ := by unfold Addr.add; split <;> simp_all
  rw [e, cell_of_row _ _ j _ t (0, 0) (heap_alloc_new _ _), hd]
  match j, hj4 with
  | 0, _ => simp [sumBytes, UInt8.toNat_ofNat']
  | 1, _ => simp [sumBytes, UInt8.toNat_ofNat']
  | 2, _ => simp [sumBytes, UInt8.toNat_ofNat']
  | 3, _ => simp [sumBytes, UInt8.toNat_ofNat']
set_option maxHeartbeats 400000 in
theorem bytes_any (n : Nat) (w : World) (hn : n < 4294967296) :
    Calls Try.prog 38 #[.int .i64 n] w fun e w' => e = .returned (.string ⟨(sumBytes n).toArray⟩) ∧ Below w.heap.size w w' := by
  have hcv := conv4 w 83 n ((n : Int) / 16777216) (by omega)
  go_enter Try.func38, Try.ntmps38
  go_wp2
  refine wp_loop_rounds 5 ?_
  rw [rounds_succ]
  go_wp2
  iterate 4 (rw [rounds_succ]; go_wp2)
  go_ret
  exact ⟨rfl, (Below.refl _ _).alloc (Nat.le_refl _) _⟩
set_option maxHeartbeats 400000 in
theorem refbytes_any (n : Nat) (w : World) (hn : n < 4294967296) :
    Calls Try.prog 39 #[.int .i64 n] w fun e w' => e = .returned (.string ⟨(sumBytes n).toArray⟩) ∧ Below w.heap.size w w' := by
  have hcv := conv4 w 5 n ((n : Int) / 16777216 % 256) (by omega)
  go_enter Try.func39, Try.ntmps39
  go_wp2
  go_ret
  exact ⟨rfl, (Below.refl _ _).alloc (Nat.le_refl _) _⟩

theorem sum1_drew (s : ByteArray) (w : World) (hs : s.size ≤ maxLen) :
    Calls Try.prog 11 #[.slice (some ⟨w.heap.size, 0, none⟩) 1 1] (w.alloc (.cells #[.string s] 9)).drew fun e w' => e = .returned (.int .i64 (crcSum s.data.toList : Nat)) ∧ Below w.heap.size w w' := by
  have h := sum_any w.heap.size 0 1 [s] (w.alloc (.cells #[.string s] 9)).drew (fun j hj => by
    have : j = 0 := by simp at hj; omega
    subst this
    show (w.alloc (.cells #[.string s] 9)).cell? _ = _
    rw [cell_of_row _ _ _ _ 9 (0, 0) (heap_alloc_new _ _)]; rfl) (fun x hx => by simp at hx; subst hx; exact hs) (by simp) (by simp)
  refine Calls.mono h ?_
  rintro e w' ⟨rfl, hb⟩
  refine ⟨by simp [flat], ((Below.refl _ _).alloc (Nat.le_refl _) _).drew.trans (hb.mono (by simp))⟩
/-- The sum of one string. -/
theorem sum1_any (s : ByteArray) (w : World) (hs : s.size ≤ maxLen) :
    Calls Try.prog 11 #[.slice (some ⟨w.heap.size, 0, none⟩) 1 1] (w.alloc (.cells #[.string s] 9)) fun e w' => e = .returned (.int .i64 (crcSum s.data.toList : Nat)) ∧ Below w.heap.size w w' := by
  have h := sum_any w.heap.size 0 1 [s] (w.alloc (.cells #[.string s] 9)) (fun j hj => by
    have : j = 0 := by simp at hj; omega
    subst this
    rw [cell_of_row _ _ _ _ 9 (0, 0) (heap_alloc_new _ _)]; rfl) (fun x hx => by simp at hx; subst hx; exact hs) (by simp) (by simp)
  refine Calls.mono h ?_
  rintro e w' ⟨rfl, hb⟩
  refine ⟨by simp [flat], ((Below.refl _ _).alloc (Nat.le_refl _) _).trans (hb.mono (by simp))⟩
theorem lawlives_any (w : World) :
    Calls Try.prog 18 #[] w fun e w' => e = .returned (.bool true) ∧ Below w.heap.size w w' := by
  have h := sum_any w.heap.size 0 2 [⟨#[49, 50, 51, 52]⟩, ⟨#[53, 54, 55, 56, 57]⟩] (w.alloc (.cells #[.string ⟨#[49, 50, 51, 52]⟩, .string ⟨#[53, 54, 55, 56, 57]⟩] 9)) (fun j hj => by
    have : j < 2 := hj
    rw [cell_of_row _ _ _ _ 9 (0, 0) (heap_alloc_new _ _)]
    match j, this with
    | 0, _ => rfl
    | 1, _ => rfl) (fun x hx => by simp at hx; rcases hx with rfl | rfl <;> decide) (by simp) (by simp)
  have hl : crcSum (flat [⟨#[49, 50, 51, 52]⟩, ⟨#[53, 54, 55, 56, 57]⟩]) = 3421780262 := crcSum_lives
  rw [hl] at h
  have H := Lib.hid h
  clear h hl
  go_enter Try.func18, Try.ntmps18
  go_wp2_with (go_at_call 11; refine (H.out).mono ?_; rintro e w' ⟨rfl, hb⟩)
  go_ret
  exact ⟨rfl, ((Below.refl _ _).alloc (Nat.le_refl _) _).trans (hb.mono (by simp))⟩

/-- What is sealed: the bytes and the bytes of their sum. -/
def sealed' (s : ByteArray) : ByteArray := s ++ ⟨(sumBytes (crcSum s.data.toList)).toArray⟩
set_option maxHeartbeats 400000 in
theorem sealit_any (s : ByteArray) (w : World) (hs : s.size ≤ 140737488351232) :
    Calls Try.prog 21 #[.string s] w fun e w' => e = .returned (.string (sealed' s)) ∧ Below w.heap.size w w' := by
  have hlt := crcSum_lt s.data.toList
  have hsm : s.size + (sumBytes (crcSum s.data.toList)).length ≤ 9223372036854775807 := by rw [sumBytes_length]; omega
  go_enter Try.func21, Try.ntmps21
  go_wp2_with (first | (go_at_call 11; refine (sum1_any _ _ (by unfold maxLen; omega)).mono ?_; rintro e w1 ⟨rfl, hb1⟩) | (go_at_call 38; refine (bytes_any _ _ hlt).mono ?_; rintro e w2 ⟨rfl, hb2⟩))
  go_ret
  exact ⟨rfl, hb1.trans (hb2.mono hb1.size)⟩
set_option maxHeartbeats 400000 in
theorem refsealit_any (s : ByteArray) (w : World) (hs : s.size ≤ 140737488351232) :
    Calls Try.prog 22 #[.string s] w fun e w' => e = .returned (.string (sealed' s)) ∧ Below w.heap.size w w' := by
  have hlt := crcSum_lt s.data.toList
  have hsm : s.size + (sumBytes (crcSum s.data.toList)).length ≤ 9223372036854775807 := by rw [sumBytes_length]; omega
  go_enter Try.func22, Try.ntmps22
  go_wp2_with (first | (go_at_call 12; refine (refsum_any _ _ (by unfold maxLen; omega)).mono ?_; rintro e w1 ⟨rfl, rfl⟩) | (go_at_call 39; refine (refbytes_any _ _ hlt).mono ?_; rintro e w2 ⟨rfl, hb2⟩))
  go_ret
  exact ⟨rfl, hb2⟩

set_option maxHeartbeats 400000 in
theorem open_no (s : ByteArray) (w : World) (h : s.size < 4) :
    Calls Try.prog 19 #[.string s] w fun e w' => e = .returned (.tuple #[.string ⟨#[]⟩, .int .i64 2]) ∧ w = w' := by
  go_enter Try.func19, Try.ntmps19
  go_wp2_with fail
  go_ret2
  exact ⟨rfl, rfl⟩
set_option maxHeartbeats 400000 in
theorem refopen_no (s : ByteArray) (w : World) (h : s.size < 4) :
    Calls Try.prog 20 #[.string s] w fun e w' => e = .returned (.tuple #[.string ⟨#[]⟩, .int .i64 2]) ∧ w = w' := by
  go_enter Try.func20, Try.ntmps20
  go_wp2_with fail
  go_ret2
  exact ⟨rfl, rfl⟩
/-- What opens. -/
def opened (s : ByteArray) : ByteArray := s.extract 0 (s.size - 4)
theorem opened_size (s : ByteArray) : (opened s).size = s.size - 4 := by unfold opened; rw [ByteArray.size_extract]; omega
theorem opened_data (s : ByteArray) : (opened s).data.toList = s.data.toList.take (s.size - 4) := by
  unfold opened
  simp
theorem ba_ext (s t : ByteArray) (h : s.data.toList = t.data.toList) : s = t := by
  cases s; cases t; simp at h; simp [h]
theorem sealed_data (s : ByteArray) : (sealed' s).data.toList = s.data.toList ++ sumBytes (crcSum s.data.toList) := by
  unfold sealed'
  simp
/-- Do the last four bytes seal those ahead? -/
def opens (s : ByteArray) : Bool := sumBytes (crcSum (s.data.toList.take (s.size - 4))) == s.data.toList.drop (s.size - 4)
theorem opens_sealed (s : ByteArray) : opens s = true ↔ (sealed' (opened s)) = s := by
  unfold opens
  constructor
  · intro h
    apply ba_ext
    rw [sealed_data, opened_data, eq_of_beq h, List.take_append_drop]
  · intro h
    have h2 := congrArg (fun x : ByteArray => x.data.toList) h
    simp only [sealed_data, opened_data] at h2
    rw [beq_iff_eq]
    have h3 : s.data.toList.take (s.size - 4) ++ sumBytes (crcSum (s.data.toList.take (s.size - 4))) = s.data.toList.take (s.size - 4) ++ s.data.toList.drop (s.size - 4) := by rw [h2, List.take_append_drop]
    exact List.append_cancel_left h3
theorem test_open (s : ByteArray) (b : Bool) (h : (!sumBytes (crcSum (List.take (s.size - 4) s.data.toList)) == (s.extract (s.size - 4) s.size).toList) = b) : opens s = !b := by
  have e : (s.extract (s.size - 4) s.size).toList = s.data.toList.drop (s.size - 4) := by rw [ByteArray.toList_eq, Lib.extract_to_end]
  rw [e] at h
  unfold opens
  rw [← h, Bool.not_not]
theorem test_refopen (s : ByteArray) (b : Bool) (h : (!(sealed' (s.extract 0 (s.size - 4))).toList == s.toList) = b) : opens s = !b := by
  have e : opens s = ((sealed' (opened s)).toList == s.toList) := by
    rw [Bool.eq_iff_iff, opens_sealed, beq_iff_eq, ByteArray.toList_eq, ByteArray.toList_eq]
    exact ⟨fun h => by rw [h], fun h => ba_ext _ _ h⟩
  rw [e, ← h, Bool.not_not]
  rfl
def OpenPost (s : ByteArray) (w : World) (e : Ending) (w' : World) : Prop :=
  e = .returned (.tuple #[.string (if opens s then opened s else ⟨#[]⟩), .int .i64 (if opens s then 0 else 4)]) ∧ Below w.heap.size w w'
theorem openPost_t {s : ByteArray} {w w' : World} {e : Ending} (h : opens s = true) (he : e = .returned (.tuple #[.string (opened s), .int .i64 0])) (hb : Below w.heap.size w w') : OpenPost s w e w' := by
  unfold OpenPost; rw [h]; exact ⟨he, hb⟩
theorem openPost_f {s : ByteArray} {w w' : World} {e : Ending} (h : opens s = false) (he : e = .returned (.tuple #[.string ⟨#[]⟩, .int .i64 4])) (hb : Below w.heap.size w w') : OpenPost s w e w' := by
  unfold OpenPost; rw [h]; exact ⟨he, hb⟩
set_option maxHeartbeats 400000 in
theorem open_yes (s : ByteArray) (w : World) (h : 4 ≤ s.size) (hs : s.size ≤ 140737488351232) :
    Calls Try.prog 19 #[.string s] w (OpenPost s w) := by
  have hsz : ∀ k : Nat, (s.extract 0 k).size ≤ maxLen := fun k => by rw [ByteArray.size_extract]; unfold maxLen; omega
  go_enter Try.func19, Try.ntmps19
  go_wp2_with fail
  go_region_with (first | (go_at_call 11; refine (sum1_drew _ _ (hsz _)).mono ?_; rintro e w1 ⟨rfl, hb1⟩) | (go_at_call 38; refine (bytes_any _ _ (crcSum_lt _)).mono ?_; rintro e w2 ⟨rfl, hb2⟩))
  all_goals go_wp2
  all_goals have e : ((s.size : Int) - 4).toNat = s.size - 4 := by omega
  all_goals go_ret2
  all_goals have hbb := hb1.trans (hb2.mono hb1.size)
  all_goals simp only [e] at *
  · exact openPost_f (test_open s true ‹_›) rfl hbb
  · exact openPost_t (test_open s false ‹_›) rfl hbb
  · exact openPost_f (test_open s true ‹_›) rfl hbb
  · exact openPost_t (test_open s false ‹_›) rfl hbb
set_option maxHeartbeats 400000 in
theorem refopen_yes (s : ByteArray) (w : World) (h : 4 ≤ s.size) (hs : s.size ≤ 140737488351232) :
    Calls Try.prog 20 #[.string s] w (OpenPost s w) := by
  have hsz : (s.extract 0 (s.size - 4)).size ≤ 140737488351232 := by have := opened_size s; unfold opened at this; omega
  go_enter Try.func20, Try.ntmps20
  go_wp2_with (go_at_call 22; refine (refsealit_any _ _ hsz).mono ?_; rintro e w' ⟨rfl, hb⟩)
  all_goals go_ret2
  · exact openPost_f (test_refopen s true ‹_›) rfl hb
  · exact openPost_t (test_refopen s false ‹_›) rfl hb
end Go.Proofs.Ytckgmofgcddnaaa
