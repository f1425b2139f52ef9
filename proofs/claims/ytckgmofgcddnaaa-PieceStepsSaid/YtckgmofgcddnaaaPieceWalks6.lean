/- What the functions of package piece come to, each once: Slice whole, String, Compact. -/
import Derived.Test.YtckgmofgcddnaaaPieceWalks5
namespace Go.Proofs.Ytckgmofgcddnaaa
open Go.RowKit

set_option maxHeartbeats 1000000 in
theorem slice_none_list {w : World} {B T : Nat} {f : ByteArray} {d : List UInt8} {sv : Value} (h : TabV w B T f d [] sv (.slice none 0 0)) :
    Calls Try.prog 27 #[.pointer (some ⟨T, 0, none⟩), .int .i64 0, .int .i64 0] w fun e w' => e = .returned (.string ⟨#[]⟩) ∧ Below w.heap.size w w' := by
  have hc := right_any ⟨_, _, h⟩ 0 0
  rw [show rightB (total []) 0 0 = true from rfl] at hc
  obtain ⟨c0, c1, c2, c3, cf⟩ := h.cells
  have hTl := h.lt
  have HC := Lib.hid hc
  clear hc h c0 c1 c3 cf
  have hbl := Lib.fresh_isBuilder 72 5 w
  have HB := Lib.hid hbl
  clear hbl
  have c2' : (w.alloc (.cells #[.pointer none, .slice none 0 0] 72)).cell? ⟨T, 2, none⟩ = some (.slice none 0 0) := (((Below.refl _ _).alloc (Nat.le_refl _) _).cell (p := ⟨T, 2, none⟩) hTl).trans c2
  have hst := fun (wx : World) (hb : Lib.IsBuilder 72 5 w.heap.size w.heap.size (Lib.byteCells []) wx) (hs : w.heap.size ≤ wx.heap.size) => Try.Builder_String_any w.heap.size w.heap.size [] wx hb hs
  have HST := Lib.hid hst
  clear hst
  go_enter Try.func27, Try.ntmps27
  go_wp2_with (go_at_call 43; refine HC.out.mono ?_; rintro e w1 ⟨rfl, rfl⟩)
  refine wp_loop_rounds 1 ?_
  rw [rounds_succ]
  go_wp2_with (go_at_call 47; refine (HST.out _ HB.out (by simp)).mono ?_; rintro e w1 ⟨rfl, hb1⟩)
  go_ret
  exact ⟨rfl, ((Below.refl _ _).alloc (Nat.le_refl _) _).trans hb1⟩
/-- A part of all bytes. -/
def cutOf (f : ByteArray) (d : List UInt8) (l : List Sp) (p q : Nat) : ByteArray := ⟨(((body f.data.toList d l).take q).drop p).toArray⟩
theorem slice_any {w : World} {B T : Nat} {f : ByteArray} {d : List UInt8} {l : List Sp} (h : Tab w B T f d l) (p q : Nat) (hpq : p ≤ q) (hq : q ≤ total l)
    (hlen : l.length ≤ 900000) (hf : f.size ≤ 140737488355328) (hd : d.length ≤ 140737488355328) (ht : total l ≤ 140737488355328) :
    Calls Try.prog 27 #[.pointer (some ⟨T, 0, none⟩), .int .i64 p, .int .i64 q] w fun e w' => e = .returned (.string (cutOf f d l p q)) ∧ Below w.heap.size w w' := by
  obtain ⟨sv, lv, h⟩ := h
  rcases h.row with ⟨rfl, rfl⟩ | ⟨g, cap, cur, rfl, hr⟩
  · have hq0 : q = 0 := by simpa [total] using hq
    have hp0 : p = 0 := by omega
    subst hq0; subst hp0
    exact slice_none_list h
  · have e : cutOf f d l p q = ⟨(partOf f d l p q l.length).toArray⟩ := by unfold cutOf partOf; rw [List.take_length]
    rw [e]
    exact slice_some h p q hpq hq hlen hf hd ht
/-- All bytes. -/
def allOf (f : ByteArray) (d : List UInt8) (l : List Sp) : ByteArray := ⟨(body f.data.toList d l).toArray⟩
theorem cutOf_all (f : ByteArray) (d : List UInt8) (l : List Sp) (h : okAll f.data.toList d l) : cutOf f d l 0 (total l) = allOf f d l := by
  unfold cutOf allOf
  rw [List.drop_zero, List.take_of_length_le (by rw [body_length h]; exact Nat.le_refl _)]
set_option maxHeartbeats 400000 in
theorem string_any {w : World} {B T : Nat} {f : ByteArray} {d : List UInt8} {l : List Sp} (h : Tab w B T f d l)
    (hlen : l.length ≤ 900000) (hf : f.size ≤ 140737488355328) (hd : d.length ≤ 140737488355328) (ht : total l ≤ 140737488355328) :
    Calls Try.prog 30 #[.pointer (some ⟨T, 0, none⟩)] w fun e w' => e = .returned (.string (allOf f d l)) ∧ Below w.heap.size w w' := by
  have h1 := len_any h
  have h2 := slice_any h 0 (total l) (Nat.zero_le _) (Nat.le_refl _) hlen hf hd ht
  have hok : okAll f.data.toList d l := by obtain ⟨_, _, h⟩ := h; exact h.ok
  rw [cutOf_all f d l hok] at h2
  have H1 := Lib.hid h1
  have H2 := Lib.hid h2
  clear h1 h2 h
  go_enter Try.func30, Try.ntmps30
  go_wp2_with (first | (go_at_call 31; refine H1.out.mono ?_; rintro e w1 ⟨rfl, rfl⟩) | (go_at_call 27; refine H2.out.mono ?_; rintro e w1 ⟨rfl, hb⟩))
  go_ret
  exact ⟨rfl, hb⟩
set_option maxHeartbeats 400000 in
theorem string_nil (w : World) :
    Calls Try.prog 30 #[.pointer none] w fun e w' => e = .returned (.string ⟨#[]⟩) ∧ w = w' := by
  go_enter Try.func30, Try.ntmps30
  go_wp2
  go_ret
  exact ⟨rfl, rfl⟩
set_option maxHeartbeats 400000 in
theorem compact_nil (w : World) :
    Calls Try.prog 35 #[.pointer none] w fun e w' => e = .returned (.tuple #[]) ∧ w = w' := by
  go_enter Try.func35, Try.ntmps35
  go_wp2
  exact bodyPost_ret (v := .tuple #[]) (by simp [results, Try.results35, go_sem]) rfl ⟨rfl, rfl⟩
/-- A whole table is written over. -/
def setFour (w : World) (T : Nat) (y0 y1 y2 y3 : Value) : World := (((w.setCell ⟨T, 0, none⟩ y0).setCell ⟨T, 1, none⟩ y1).setCell ⟨T, 2, none⟩ y2).setCell ⟨T, 3, none⟩ y3
theorem setFour_heap {w : World} {T : Nat} {x0 x1 x2 x3 : Value} (y0 y1 y2 y3 : Value) (h : w.heap[T]? = some (.cells #[x0, x1, x2, x3] 59 (0, 0))) :
    (setFour w T y0 y1 y2 y3).heap[T]? = some (.cells #[y0, y1, y2, y3] 59 (0, 0)) ∧ ∀ k, k ≠ T → (setFour w T y0 y1 y2 y3).heap[k]? = w.heap[k]? := by
  constructor
  · have h0 := heap_setCell_same w T 0 _ 59 y0 h
    have h1 := heap_setCell_same _ T 1 _ 59 y1 h0
    have h2 := heap_setCell_same _ T 2 _ 59 y2 h1
    have h3 := heap_setCell_same _ T 3 _ 59 y3 h2
    unfold setFour
    rw [h3]
    rfl
  · intro k hk
    unfold setFour
    rw [heap_setCell_other _ ⟨T, 3, none⟩ k y3 hk, heap_setCell_other _ ⟨T, 2, none⟩ k y2 hk, heap_setCell_other _ ⟨T, 1, none⟩ k y1 hk, heap_setCell_other _ ⟨T, 0, none⟩ k y0 hk]
theorem compact_done {w : World} {B T T2 : Nat} {f f2 : ByteArray} {d : List UInt8} {l l2 : List Sp} {sv lv sv2 lv2 : Value} (h : TabV w B T f d l sv lv) (h2 : TabV w B T2 f2 [] l2 sv2 lv2) :
    TabV (setFour w T (.string f2) sv2 lv2 (.int .i64 (total l2 : Nat))) B T f2 [] l2 sv2 lv2 ∧ Mine B w (setFour w T (.string f2) sv2 lv2 (.int .i64 (total l2 : Nat))) := by
  have hblk := h.blk
  obtain ⟨hT, hO⟩ := setFour_heap (.string f2) sv2 lv2 (.int .i64 (total l2 : Nat)) hblk
  refine ⟨⟨h.low, hT, ?_, ?_, h2.ok⟩, ?_, ?_⟩
  · exact h2.sec.kept (row := some T) ⟨rfl, rfl, rfl, by simp [setFour, World.setCell], fun k _ hk => hO k (fun e => hk (by simp [e]))⟩ (Or.inr (Lib.ownBlock_ne h2.sec hblk (by decide)))
  · refine h2.row.keep fun k cs hk _ => ?_
    rw [hO k (fun e => by subst e; rw [hblk] at hk; simp at hk)]
    exact hk
  · exact ((((Below.refl _ _).setCell h.low _).setCell h.low _).setCell h.low _).setCell h.low _
  · intro k cs ty fr ho hk
    rw [hO k (fun e => by subst e; exact ho.1 (ty_eq hk hblk))]
    exact hk
set_option maxHeartbeats 400000 in
theorem compact_any {w : World} {B T : Nat} {f : ByteArray} {d : List UInt8} {l : List Sp} (h : Tab w B T f d l)
    (hlen : l.length ≤ 900000) (hf : f.size ≤ 140737488355328) (hd : d.length ≤ 140737488355328) (ht : total l ≤ 140737488355328) :
    Calls Try.prog 35 #[.pointer (some ⟨T, 0, none⟩)] w fun e w' => e = .returned (.tuple #[]) ∧ Tab w' B T (allOf f d l) [] (newL (total l)) ∧ Mine B w w' := by
  have h1 := string_any h hlen hf hd ht
  have hok : okAll f.data.toList d l := by obtain ⟨_, _, h⟩ := h; exact h.ok
  have hsz : (allOf f d l).size = total l := body_length hok
  have H1 := Lib.hid h1
  have HZ := Lib.hid hsz
  obtain ⟨sv, lv, h⟩ := h
  have HH := Lib.hid h
  clear h1 hsz hok h
  go_enter Try.func35, Try.ntmps35
  go_wp2_with (go_at_call 30; refine H1.out.mono ?_; rintro e w1 ⟨rfl, hb1⟩)
  have hn := new_any (allOf f d l) w1 B (by have := HH.out.le; have := hb1.size; omega) (by rw [HZ.out]; exact ht)
  refine hn.mono ?_
  rintro e w2 ⟨rfl, ⟨sv2, lv2, hT2⟩, hb2⟩
  have hT := HH.out.below (hb1.trans (hb2.mono hb1.size))
  obtain ⟨a0, a1, a2, a3, af⟩ := hT.cells
  obtain ⟨b0, b1, b2, b3, bf⟩ := hT2.cells
  obtain ⟨xa, xc, rfl, _⟩ := owns_shape hT2.sec
  obtain ⟨ya, yc, rfl, _⟩ := hT2.row.shape
  have f0 := af 0
  have f1 := af 1
  have f2 := af 2
  have f3 := af 3
  have HT := Lib.hid hT
  have HT2 := Lib.hid hT2
  clear hn hT hT2 af bf
  go_wp2_with fail
  go_end0
  have hd := compact_done HT.out HT2.out
  rw [HZ.out] at hd
  refine ⟨rfl, ?_, (Mine.below (hb1.trans (hb2.mono hb1.size)) HH.out.le).trans ?_⟩
  · rw [HZ.out]
    exact ⟨_, _, hd.1⟩
  · rw [HZ.out]
    exact hd.2
end Go.Proofs.Ytckgmofgcddnaaa
