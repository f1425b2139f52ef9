/- What the functions of package piece come to, each once: Delete, New. -/
import Derived.Test.YtckgmofgcddnaaaPieceWalks3
import Derived.Lib.IndexBytes
import Derived.Laws.IdiomStrings
namespace Go.Proofs.Ytckgmofgcddnaaa
open Go.RowKit

set_option maxHeartbeats 400000 in
theorem delete_nil (p q : Int) (w : World) :
    Calls Try.prog 34 #[.pointer none, .int .i64 p, .int .i64 q] w fun e w' => e = .returned (.int .i64 7) ∧ w = w' := by
  go_enter Try.func34, Try.ntmps34
  go_wp2
  go_ret
  exact ⟨rfl, rfl⟩
set_option maxHeartbeats 400000 in
theorem delete_out {w : World} {B T : Nat} {f : ByteArray} {d : List UInt8} {l : List Sp} (h : Tab w B T f d l) (p q : Int) (hr : rightB (total l) p q = false) :
    Calls Try.prog 34 #[.pointer (some ⟨T, 0, none⟩), .int .i64 p, .int .i64 q] w fun e w' => e = .returned (.int .i64 6) ∧ w = w' := by
  have hc := right_any h p q
  rw [hr] at hc
  have HC := Lib.hid hc
  clear hc h hr
  go_enter Try.func34, Try.ntmps34
  go_wp2_with (go_at_call 43; refine HC.out.mono ?_; rintro e w1 ⟨rfl, rfl⟩)
  go_ret
  exact ⟨rfl, rfl⟩
set_option maxHeartbeats 400000 in
theorem delete_empty {w : World} {B T : Nat} {f : ByteArray} {d : List UInt8} {l : List Sp} (h : Tab w B T f d l) (p : Int) (hr : rightB (total l) p p = true) :
    Calls Try.prog 34 #[.pointer (some ⟨T, 0, none⟩), .int .i64 p, .int .i64 p] w fun e w' => e = .returned (.int .i64 0) ∧ w = w' := by
  have hc := right_any h p p
  rw [hr] at hc
  have HC := Lib.hid hc
  clear hc h hr
  go_enter Try.func34, Try.ntmps34
  go_wp2_with (go_at_call 43; refine HC.out.mono ?_; rintro e w1 ⟨rfl, rfl⟩)
  go_ret
  exact ⟨rfl, rfl⟩
theorem delete_call {w : World} {B T : Nat} {f : ByteArray} {d : List UInt8} {l : List Sp} {sv lv : Value} {z : Int} (h : TabR w B T f d l sv lv z) (hlen : l.length ≤ 900000) (i k : Nat) (hi : i ≤ l.length) (hk : k ≤ l.length) :
    Calls Try.prog 51 #[.pointer (some ⟨T, 0, none⟩), .int .i64 i, .int .i64 k, .slice none 0 0] w (PutPost w B (putL l i k [])) :=
  put_any h.blk h.row h.le i k hi hk (Or.inl ⟨rfl, rfl⟩) (by simp; omega)
set_option maxHeartbeats 1000000 in
theorem delete_in {w : World} {B T : Nat} {f : ByteArray} {d : List UInt8} {l : List Sp} (h : Tab w B T f d l) (p q : Nat) (hpq : p < q) (hq : q ≤ total l)
    (hlen : l.length ≤ 800000) (hf : f.size ≤ 140737488355328) (hd : d.length ≤ 140737488355328) (ht : total l ≤ 1000000000000000) :
    Calls Try.prog 34 #[.pointer (some ⟨T, 0, none⟩), .int .i64 p, .int .i64 q] w (InsertPost w B T f d (deleteL l p q)) := by
  have hr := right_any h (p : Int) (q : Int)
  rw [show rightB (total l) (p : Int) (q : Int) = true from by unfold rightB; simp; omega] at hr
  have hok : okAll f.data.toList d l := by obtain ⟨_, _, h⟩ := h; exact h.ok
  have hdel := delete_spec hok p q (by omega) hq
  have hs1 := split_spec l p hok (by omega)
  have hs2 := split_spec (splitL l p) q hs1.1 (by omega)
  have hc1 : ∀ w, Tab w B T f d l → Calls Try.prog 49 #[.pointer (some ⟨T, 0, none⟩), .int .i64 p] w (SplitPost w B T f d (splitL l p) (splitI l p)) := fun w h => split_any h p (by omega) (by omega) hf hd (by omega)
  have hc2 : ∀ w, Tab w B T f d (splitL l p) → Calls Try.prog 49 #[.pointer (some ⟨T, 0, none⟩), .int .i64 q] w (SplitPost w B T f d (splitL (splitL l p) q) (splitI (splitL l p) q)) := fun w h => split_any h q (by omega) (by omega) hf hd (by omega)
  have hdl : deleteL l p q = putL (splitL (splitL l p) q) (splitI l p) (splitI (splitL l p) q) [] := by unfold deleteL putL; rw [List.append_nil]
  have hl3 : (splitL (splitL l p) q).length ≤ 900000 := by have := hs1.2.2.2.2.1; have := hs2.2.2.2.2.1; omega
  have hi3 := hdel.2.2.2.2.1
  have hk3 := hdel.2.2.2.2.2
  have ht3 : total (splitL (splitL l p) q) = total l := by rw [hs2.2.2.2.2.2.2, hs1.2.2.2.2.2.2]
  have htd := hdel.2.2.2.1
  have hod := hdel.1
  generalize splitL (splitL l p) q = l3 at *
  generalize splitI (splitL l p) q = k at *
  generalize splitL l p = l2 at *
  generalize splitI l p = i at *
  have HR := Lib.hid hr
  have H1 := Lib.hid hc1
  have H2 := Lib.hid hc2
  have HT := Lib.hid h
  have HD := Lib.hid hdl
  have HOD := Lib.hid hod
  have HTD := Lib.hid htd
  have HT3 := Lib.hid ht3
  clear hr hc1 hc2 h hdl hod htd ht3 hok hdel hs1 hs2
  go_enter Try.func34, Try.ntmps34
  go_wp2_with (first
    | (go_at_call 43; refine HR.out.mono ?_; rintro e w1 ⟨rfl, rfl⟩)
    | (go_at_call 49; (with_reducible refine (H1.out _ HT.out).mono ?_); rintro e w2 ⟨rfl, hT2, hm2⟩)
    | fail)
  refine (H2.out _ hT2).mono ?_
  rintro e w3 ⟨rfl, hT3, hm3⟩
  obtain ⟨sv, lv, hV⟩ := hT3
  have hput := delete_call hV.raw hl3 i k hi3 hk3
  have HP := Lib.hid hput
  have HV := Lib.hid hV
  clear hput hV
  go_wp2_with (go_at_call 51; refine HP.out.mono ?_)
  rintro e w4 ⟨v, rfl, hrow, hb4⟩
  obtain ⟨hb5, hR4, ⟨la, lc, rfl⟩, e2, ef2⟩ := put_facts HV.out.raw (Below.refl _ _) hb4 hrow
  have hR5 := hR4.setList hrow
  obtain ⟨_, _, _, g3, _, _, gf3⟩ := hR5.1.cells
  have g3' : w4.cell? ⟨T, 3, none⟩ = some (.int .i64 (total l3 : Nat)) := hR4.cells.2.2.2.1
  have gf3' : w4.frozen? ⟨T, 3, none⟩ = false := hR4.cells.2.2.2.2.2.2
  have hb : total l3 ≤ 1000000000000000 := by rw [HT3.out]; exact ht
  have hb2 : q ≤ total l3 := by rw [HT3.out]; exact hq
  have HR5 := Lib.hid hR5
  clear hR5 hR4 g3 gf3
  go_wp2_with fail
  go_ret
  have h6 := HR5.out.1.setSize ((total l3 : Nat) - ((q : Int) - (p : Int)))
  rw [HD.out] at HOD HTD
  refine ⟨rfl, ?_, (((hm2.trans hm3).trans (Mine.below hb5 HV.out.le)).trans HR5.out.2).trans h6.2⟩
  rw [HD.out]
  exact ⟨_, _, h6.1.done HOD.out (by rw [HTD.out, ← HT3.out]; omega)⟩

/-- The pieces of a table that is made of so many bytes. -/
def newL (n : Nat) : List Sp := if n = 0 then [] else [⟨false, 0, n⟩]
def NewPost (w : World) (B : Nat) (s : ByteArray) (e : Ending) (w' : World) : Prop := e = .returned (.pointer (some ⟨w.heap.size, 0, none⟩)) ∧ Tab w' B w.heap.size s [] (newL s.size) ∧ Below w.heap.size w w'
set_option maxHeartbeats 400000 in
theorem new_empty (s : ByteArray) (w : World) (B : Nat) (hB : B ≤ w.heap.size) (h : s.toList.isEmpty = true) : Calls Try.prog 25 #[.string s] w (NewPost w B s) := by
  have h0 : s.size = 0 := by
    rw [ByteArray.toList_eq] at h
    have e := List.isEmpty_iff.1 h
    have e2 := congrArg List.length e
    rw [Array.length_toList] at e2
    exact e2
  have H0 := Lib.hid h0
  clear h0
  go_enter Try.func25, Try.ntmps25
  go_wp2_with fail
  go_ret
  refine ⟨rfl, ⟨.slice none 0 0, .slice none 0 0, hB, ?_, World.ownsRow_nil _ _ _ _, Or.inl ⟨rfl, by unfold newL; rw [H0.out]; rfl⟩, ?_⟩, (Below.refl _ _).alloc (Nat.le_refl _) _⟩
  · rw [heap_alloc_new, H0.out]; rfl
  · unfold newL; rw [H0.out]; intro x hx; cases hx
set_option maxHeartbeats 400000 in
theorem new_full (s : ByteArray) (w : World) (B : Nat) (hB : B ≤ w.heap.size) (h : s.toList.isEmpty = false) (hs : s.size ≤ 140737488355328) : Calls Try.prog 25 #[.string s] w (NewPost w B s) := by
  have h0 : s.size ≠ 0 := by
    intro e
    have h2 := not_empty s h
    have e2 : s.data.toList.length = 0 := by rw [Array.length_toList]; exact e
    exact h2 (List.length_eq_zero_iff.1 e2)
  have H0 := Lib.hid h0
  clear h0
  have hn : newL s.size = [⟨false, 0, s.size⟩] := by unfold newL; rw [if_neg H0.out]
  have HN := Lib.hid hn
  clear hn
  go_enter Try.func25, Try.ntmps25
  go_wp2_with fail
  go_ret
  refine ⟨rfl, ⟨.slice none 0 0, .slice (some ⟨w.heap.size + 1, 0, none⟩) 1 1, hB, ?_, World.ownsRow_nil _ _ _ _, Or.inr ⟨w.heap.size + 1, 1, #[.bool false, .int .i64 0, .int .i64 s.size], ?_, by omega, heap_alloc2_new w _ _, ?_, by decide, Nat.le_refl _, ?_⟩, ?_⟩, ((Below.refl _ _).alloc (Nat.le_refl _) _).alloc (by simp) _⟩
  · rw [heap_alloc2_old, HN.out]; simp [total, Sp.len]
  · rw [HN.out]; rfl
  · rw [HN.out]; exact Nat.le_refl _
  · rw [HN.out]; rfl
  · rw [HN.out]
    intro x hx
    simp only [List.mem_singleton] at hx
    subst hx
    have := H0.out
    exact ⟨by show 0 < s.size; omega, by show s.size ≤ s.data.toList.length; rw [Array.length_toList]; exact Nat.le_refl _⟩
theorem new_any (s : ByteArray) (w : World) (B : Nat) (hB : B ≤ w.heap.size) (hs : s.size ≤ 140737488355328) : Calls Try.prog 25 #[.string s] w (NewPost w B s) := by
  cases h : s.toList.isEmpty
  · exact new_full s w B hB h hs
  · exact new_empty s w B hB h

theorem ba_same (s t : ByteArray) (h : s.data.toList = t.data.toList) : s = t := by
  cases s; cases t; simp at h; simp [h]
/-- The bytes of a piece. -/
def spText (f : ByteArray) (d : List UInt8) (s : Sp) : ByteArray := ⟨(s.text f.data.toList d).toArray⟩
set_option maxHeartbeats 400000 in
theorem text_first {w : World} {B T : Nat} {f : ByteArray} {d : List UInt8} {l : List Sp} (h : Tab w B T f d l) (lo hi : Nat) (h1 : lo < hi) (h2 : hi ≤ f.size) :
    Calls Try.prog 46 #[.pointer (some ⟨T, 0, none⟩), .agg #[.bool false, .int .i64 lo, .int .i64 hi]] w fun e w' => e = .returned (.string (spText f d ⟨false, lo, hi⟩)) ∧ Below w.heap.size w w' := by
  obtain ⟨sv, lv, h⟩ := h
  have hTl := h.lt
  have hb := h.below ((Below.refl _ _).alloc (Nat.le_refl _) (.cells #[.bool false, .int .i64 lo, .int .i64 hi] 67))
  obtain ⟨c0, c1, c2, c3, cf⟩ := hb.cells
  have he : spText f d ⟨false, lo, hi⟩ = f.extract lo hi := by
    apply ba_same
    unfold spText Sp.text Sp.src
    rw [Lib.extract_data]
    exact List.drop_take
  rw [he]
  clear h hb cf
  go_enter Try.func46, Try.ntmps46
  go_wp2_with fail
  go_quiet (fail)
  go_wp2
  go_ret
  exact ⟨rfl, below_drewN ((Below.refl _ _).alloc (Nat.le_refl _) _) _⟩
set_option maxHeartbeats 1000000 in
theorem text_second {w : World} {B T : Nat} {f : ByteArray} {d : List UInt8} {l : List Sp} (h : Tab w B T f d l) (lo hi : Nat) (h1 : lo < hi) (h2 : hi ≤ d.length) :
    Calls Try.prog 46 #[.pointer (some ⟨T, 0, none⟩), .agg #[.bool true, .int .i64 lo, .int .i64 hi]] w fun e w' => e = .returned (.string (spText f d ⟨true, lo, hi⟩)) ∧ Below w.heap.size w w' := by
  obtain ⟨sv, lv, h⟩ := h
  have hTl := h.lt
  have hb := h.below (((Below.refl _ _).alloc (Nat.le_refl _) (.cells #[.bool true, .int .i64 lo, .int .i64 hi] 67)))
  obtain ⟨c0, c1, c2, c3, cf⟩ := hb.cells
  have hs := hb.sec
  rcases hs.2 with ⟨_, h0⟩ | ⟨g, cap, cur, rfl, hg, hh, hn, hm, hcs, htk⟩
  · omega
  · have hcells := fun j (hj : j < d.length) => hs.cellAt j (by omega)
    have hcv : (convert 38 9 (.slice (some ⟨g, lo, none⟩) (hi - lo) (cap - lo))).run Try.prog (w.alloc (.cells #[.bool true, .int .i64 lo, .int .i64 hi] 67)).drew = .ok (.string (spText f d ⟨true, lo, hi⟩)) (w.alloc (.cells #[.bool true, .int .i64 lo, .int .i64 hi] 67)).drew := by
      have hlen : ((d.take hi).drop lo).length = hi - lo := by rw [List.length_drop, List.length_take]; omega
      have := run_convert_bytes_back (P := Try.prog) (l := (d.take hi).drop lo) (w.alloc (.cells #[.bool true, .int .i64 lo, .int .i64 hi] 67)).drew 38 9 5 ⟨g, lo, none⟩ (cap - lo) Try.underlying38 Try.underlying5 Try.underlying9 (fun j hj => by
        rw [hlen] at hj
        rw [add_add]
        show (w.alloc (.cells #[.bool true, .int .i64 lo, .int .i64 hi] 67)).cell? ⟨g, lo + j, none⟩ = _
        rw [hcells (lo + j) (by omega)]
        simp [Lib.byteCells, List.getElem_drop, List.getElem_take, show lo + j < d.length by omega])
      rw [hlen] at this
      exact this
    have hlc : lo < cap := by omega
    have hnc : d.length ≤ cap := hn
    have hcm : cap ≤ 9223372036854775807 := hm
    clear h hb cf hs hcells hh htk hcs
    go_enter Try.func46, Try.ntmps46
    go_wp2_with fail
    go_region
    all_goals go_wp2
    all_goals go_ret
    all_goals exact ⟨rfl, ((Below.refl _ _).alloc (Nat.le_refl _) _).drew⟩
theorem text_any {w : World} {B T : Nat} {f : ByteArray} {d : List UInt8} {l : List Sp} (h : Tab w B T f d l) (s : Sp) (hs : s.ok f.data.toList d) :
    Calls Try.prog 46 #[.pointer (some ⟨T, 0, none⟩), .agg #[.bool s.add, .int .i64 s.lo, .int .i64 s.hi]] w fun e w' => e = .returned (.string (spText f d s)) ∧ Below w.heap.size w w' := by
  obtain ⟨a, lo, hi⟩ := s
  cases a
  · exact text_first h lo hi hs.1 (by have := hs.2; unfold Sp.src at this; simpa using this)
  · exact text_second h lo hi hs.1 (by have := hs.2; unfold Sp.src at this; simpa using this)
end Go.Proofs.Ytckgmofgcddnaaa
