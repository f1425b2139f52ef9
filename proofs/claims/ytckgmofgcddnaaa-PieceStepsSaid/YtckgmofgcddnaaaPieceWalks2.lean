/- What the functions of package piece come to, each once: grow, split. -/
import Derived.Test.YtckgmofgcddnaaaPieceWalks
import Derived.Deep.QuietTactic
import Derived.BigQuiet
import Derived.BigRegion
namespace Go.Proofs.Ytckgmofgcddnaaa
open Go.RowKit

set_option maxHeartbeats 400000 in
theorem grow_zero (T : Nat) (w : World) :
    Calls Try.prog 50 #[.pointer (some ⟨T, 0, none⟩), .int .i64 (-1)] w fun e w' => e = .returned (.bool false) ∧ ∃ n, w.drewN n = w' := by
  go_enter Try.func50, Try.ntmps50
  go_wp2_with fail
  go_quiet (fail)
  go_wp2
  go_ret
  exact ⟨rfl, _, rfl⟩
set_option maxHeartbeats 1000000 in
theorem grow_no {w : World} {B T g n c : Nat} {f : ByteArray} {d : List UInt8} {l : List Sp} {sv : Value} (h : TabV w B T f d l sv (.slice (some ⟨g, 0, none⟩) n c)) (i : Nat) (hi : i < l.length) (ha : l[i].add = false) :
    Calls Try.prog 50 #[.pointer (some ⟨T, 0, none⟩), .int .i64 i] w fun e w' => e = .returned (.bool false) ∧ ∃ n, w.drewN n = w' := by
  obtain ⟨c0, c1, c2, c3, cf⟩ := h.cells
  obtain ⟨p0, p1, p2, p3⟩ := h.row.piece i hi
  obtain ⟨hn, _, _, hlc, hcm, _, _⟩ := h.row.at
  have hin : i < n := by omega
  have hnm : n ≤ 9223372036854775807 := by unfold maxLen at hcm; omega
  rw [ha] at p0
  clear h cf hn hcm
  go_enter Try.func50, Try.ntmps50
  go_wp2_with fail
  go_quiet (fail)
  go_wp2
  go_ret
  exact ⟨rfl, _, rfl⟩
set_option maxHeartbeats 1000000 in
theorem grow_yes {w : World} {B T g n c : Nat} {f : ByteArray} {d : List UInt8} {l : List Sp} {sv : Value} (h : TabV w B T f d l sv (.slice (some ⟨g, 0, none⟩) n c)) (i : Nat) (hi : i < l.length) (ha : l[i].add = true) :
    Calls Try.prog 50 #[.pointer (some ⟨T, 0, none⟩), .int .i64 i] w fun e w' => e = .returned (.bool (decide (l[i].hi = d.length))) ∧ ∃ n, w.drewN n = w' := by
  obtain ⟨c0, c1, c2, c3, cf⟩ := h.cells
  obtain ⟨p0, p1, p2, p3⟩ := h.row.piece i hi
  obtain ⟨hn, _, _, hlc, hcm, _, _⟩ := h.row.at
  obtain ⟨sa, sc, rfl, _⟩ := owns_shape h.sec
  have hin : i < n := by omega
  have hnm : n ≤ 9223372036854775807 := by unfold maxLen at hcm; omega
  rw [ha] at p0
  clear h cf hn hcm
  have e : (decide (l[i].hi = d.length)) = ((l[i].hi : Int) == (d.length : Int)) := by
    rw [Bool.eq_iff_iff]; simp; omega
  rw [e]
  go_enter Try.func50, Try.ntmps50
  go_wp2_with fail
  go_quiet (fail)
  go_wp2
  go_ret
  exact ⟨rfl, _, rfl⟩
theorem grow_any {w : World} {B T : Nat} {f : ByteArray} {d : List UInt8} {l : List Sp} (h : Tab w B T f d l) (i : Nat) (hi : i ≤ l.length) :
    Calls Try.prog 50 #[.pointer (some ⟨T, 0, none⟩), .int .i64 ((i : Int) - 1)] w fun e w' => e = .returned (.bool (grows l i d.length)) ∧ ∃ n, w.drewN n = w' := by
  cases i with
  | zero => exact grow_zero T w
  | succ i =>
    obtain ⟨sv, lv, h⟩ := h
    have hil : i < l.length := by omega
    have e : (((i + 1 : Nat) : Int) - 1) = (i : Int) := by omega
    have eg : grows l (i + 1) d.length = (l[i].add && decide (l[i].hi = d.length)) := by
      show (match l[i]? with | some s => s.add && decide (s.hi = d.length) | none => false) = _
      rw [List.getElem?_eq_getElem hil]
    rw [e, eg]
    rcases h.row with ⟨rfl, rfl⟩ | ⟨g, cap, cur, rfl, hr⟩
    · simp at hil
    · cases ha : l[i].add
      · exact grow_no h i hil ha
      · exact grow_yes h i hil ha

def SplitAt (l : List Sp) (p k r : Nat) : Prop := splitL l p = l.take k ++ splitL (l.drop k) r ∧ splitI l p = k + splitI (l.drop k) r ∧ r ≤ p
def SplitPost (w : World) (B T : Nat) (f : ByteArray) (d : List UInt8) (l : List Sp) (i : Nat) (e : Ending) (w' : World) : Prop := e = .returned (.int .i64 i) ∧ Tab w' B T f d l ∧ Mine B w w'
theorem heap3 (w : World) (A C D : Obj) : (((w.alloc A).alloc C).alloc D).drew.drew.heap[w.heap.size + 1 + 1]? = some D := by
  have h := heap_alloc_new ((w.alloc A).alloc C) D
  have e : ((w.alloc A).alloc C).heap.size = w.heap.size + 1 + 1 := by simp
  rw [e] at h
  exact h
/-- The call of put in split. -/
theorem split_put {w wr w1 W : World} {B T gi : Nat} {f : ByteArray} {d : List UInt8} {l : List Sp} {sv lv : Value} {o : Obj} (h : TabV w B T f d l sv lv) (hbel : Below w.heap.size w wr) (hlen : l.length ≤ 900000) (k : Nat) (hk : k < l.length) (s : Sp) (r : Nat)
    (hb1 : Below (wr.alloc o).heap.size (wr.alloc o) w1) (hb2 : Below w1.heap.size w1 W)
    (hgi : W.heap[gi]? = some (.cells #[.bool s.add, .int .i64 s.lo, .int .i64 ((s.lo : Int) + (r : Int)), .bool s.add, .int .i64 ((s.lo : Int) + (r : Int)), .int .i64 s.hi] 67)) :
    Calls Try.prog 51 #[.pointer (some ⟨T, 0, none⟩), .int .i64 k, .int .i64 ((k : Int) + 1), .slice (some ⟨gi, 0, none⟩) 2 2] W (PutPost W B (putL l k (k + 1) [⟨s.add, s.lo, s.lo + r⟩, ⟨s.add, s.lo + r, s.hi⟩])) := by
  have hbw : Below w.heap.size w W := by
    have h1 := (hbel.alloc hbel.size o).trans (hb1.mono (by have := hbel.size; simp; omega))
    exact h1.trans (hb2.mono h1.size)
  have hT := h.below hbw
  have e : ((k : Int) + 1) = ((k + 1 : Nat) : Int) := by omega
  rw [e]
  refine put_any hT.blk hT.row hT.le k (k + 1) (by omega) (by omega) (Or.inr ⟨⟨gi, 0, none⟩, 2, rfl, ?_⟩) (by simp; omega)
  intro j u hj
  rw [add_plain0, Lib.cell_of_heap hgi]
  have hj6 : j < 6 := by
    have := (List.getElem?_eq_some_iff.1 hj).1
    rw [spCells_length] at this
    exact this
  rw [← hj]
  match j, hj6 with
  | 0, _ => rfl
  | 1, _ => rfl
  | 2, _ => rfl
  | 3, _ => rfl
  | 4, _ => rfl
  | 5, _ => rfl
theorem split_facts {w wr w1 W w3 : World} {B T : Nat} {f : ByteArray} {d : List UInt8} {l l' : List Sp} {sv lv v : Value} {o : Obj} (h : TabV w B T f d l sv lv) (hbel : Below w.heap.size w wr)
    (hb1 : Below (wr.alloc o).heap.size (wr.alloc o) w1) (hb2 : Below w1.heap.size w1 W) (hb3 : Below W.heap.size W w3) (hr : Row3 w3 B v l') :
    TabV w3 B T f d l sv lv ∧ ∃ a c, v = .slice a l'.length c ∧ w3.cell? ⟨T, 2, none⟩ = some lv ∧ w3.frozen? ⟨T, 2, none⟩ = false := by
  have h1 := (hbel.alloc hbel.size o).trans (hb1.mono (by have := hbel.size; simp; omega))
  have h2 := h1.trans (hb2.mono h1.size)
  have h3 := h2.trans (hb3.mono h2.size)
  have hT := h.below h3
  obtain ⟨a, c, hv, _⟩ := hr.shape
  exact ⟨hT, a, c, hv, hT.cells.2.2.1, hT.cells.2.2.2.2 2⟩
theorem split_done {w wr w1 W w3 : World} {B T p k r : Nat} {f : ByteArray} {d : List UInt8} {l : List Sp} {sv lv lv' : Value} {o : Obj} {s : Sp} {e : Ending} (h : TabV w3 B T f d l sv lv)
    (hrow : Row3 w3 B lv' (putL l k (k + 1) [⟨s.add, s.lo, s.lo + r⟩, ⟨s.add, s.lo + r, s.hi⟩])) (hL : splitL l p = l.take k ++ splitL (l.drop k) r) (hI : splitI l p = k + splitI (l.drop k) r) (hk : k < l.length) (hs : s = l[k]) (h0 : ¬ r = 0) (hr : r < s.len)
    (h' : TabV w B T f d l sv lv) (hp : p ≤ total l) (hbel : Below w.heap.size w wr) (hb1 : Below (wr.alloc o).heap.size (wr.alloc o) w1) (hb2 : Below w1.heap.size w1 W) (hb3 : Below W.heap.size W w3) (he : e = .returned (.int .i64 ((k : Int) + 1))) :
    SplitPost w B T f d (splitL l p) (splitI l p) e (w3.setCell ⟨T, 2, none⟩ lv') := by
  have h1 := (hbel.alloc hbel.size o).trans (hb1.mono (by have := hbel.size; simp; omega))
  have h2 := h1.trans (hb2.mono h1.size)
  have h3 := h2.trans (hb3.mono h2.size)
  have ed : l.drop k = s :: l.drop (k + 1) := by rw [hs]; exact List.drop_eq_getElem_cons hk
  have eL : splitL l p = putL l k (k + 1) [⟨s.add, s.lo, s.lo + r⟩, ⟨s.add, s.lo + r, s.hi⟩] := by
    rw [hL, ed, splitL_cut s _ r h0 hr]
    unfold putL
    simp
  have eI : splitI l p = k + 1 := by rw [hI, ed, splitI_cut s _ r h0 hr]
  have hsp := split_spec l p h'.ok hp
  refine ⟨by rw [he, eI]; rfl, ⟨sv, lv', ?_⟩, (Mine.below h3 h'.le).trans (setCell_mine h.low h.blk 2 lv')⟩
  rw [← eL] at hrow
  exact h.setList hrow hsp.1 hsp.2.2.2.2.2.2
set_option maxHeartbeats 1000000 in
theorem split_some {w : World} {B T g n c : Nat} {f : ByteArray} {d : List UInt8} {l : List Sp} {sv : Value} (h : TabV w B T f d l sv (.slice (some ⟨g, 0, none⟩) n c)) (p : Nat) (hp : p ≤ total l)
    (hlen : l.length ≤ 900000) (hf : f.size ≤ 140737488355328) (hd : d.length ≤ 140737488355328) (hp2 : p ≤ 1000000000000000) :
    Calls Try.prog 49 #[.pointer (some ⟨T, 0, none⟩), .int .i64 p] w (SplitPost w B T f d (splitL l p) (splitI l p)) := by
  obtain ⟨c0, c1, c2, c3, cf⟩ := h.cells
  obtain ⟨hn, hg1, hg2, hlc, hcm, _, _⟩ := h.row.at
  have hTl := h.lt
  subst hn
  go_enter Try.func49, Try.ntmps49
  go_wp2_with fail
  go_loopw [1, 5, 15] (fun x _ i wr => ∃ k r : Nat, k ≤ l.length ∧ i = .int .i64 k ∧ x = .int .i64 r ∧ SplitAt l p k r ∧ Below w.heap.size w wr) (fun _ _ i _ => l.length - (intOf i).toNat)
  case atStart => exact ⟨0, p, Nat.zero_le _, rfl, rfl, ⟨by simp, by simp, Nat.le_refl _⟩, Below.refl _ _⟩
  case round =>
    obtain ⟨k, r, hk, rfl, rfl, ⟨hsL, hsI, hrp⟩, hbel⟩ := hrel
    by_cases hlt : k < l.length
    · obtain ⟨p0, p1, p2, p3⟩ := (h.row.below hbel).piece k hlt
      have hok := h.ok _ (List.getElem_mem hlt)
      have hlo := hok.1
      have hhi : l[k].hi ≤ 140737488355328 := by
        have h2 := hok.2
        unfold Sp.src at h2
        have : f.data.toList.length = f.size := by rw [Array.length_toList]; rfl
        split at h2 <;> omega
      have HL := Lib.hid hsL
      have HI := Lib.hid hsI
      have HH := Lib.hid h
      clear hok hsL hsI h c0 c1 c2 c3 cf
      obtain ⟨s, hs⟩ : ∃ s, s = l[k] := ⟨_, rfl⟩
      rw [← hs] at p0 p1 p2 hlo hhi
      have HS := Lib.hid hs
      clear hs
      by_cases h0 : r = 0
      · subst h0
        go_wp2_with fail
        go_ret
        refine ⟨by rw [HI.out, splitI_zero, Nat.add_zero]; rfl, ?_, Mine.below (hbel.alloc hbel.size _) HH.out.le⟩
        have e : splitL l p = l := by rw [HL.out, splitL_zero, List.take_append_drop]
        rw [e]
        exact ⟨_, _, HH.out.below (hbel.alloc hbel.size _)⟩
      · by_cases hr : r < s.len
        · have hsz := size_any s
          have HZ := Lib.hid hsz
          clear hsz
          have hput := fun (w1 W : World) (gi : Nat) (hb1 : Below (wr.alloc (.cells #[.bool s.add, .int .i64 s.lo, .int .i64 s.hi] 67)).heap.size (wr.alloc (.cells #[.bool s.add, .int .i64 s.lo, .int .i64 s.hi] 67)) w1) => split_put HH.out hbel hlen k hlt s r (hb1 := hb1) (W := W) (gi := gi)
          have HP0 := Lib.hid hput
          clear hput
          go_wp2_with (go_at_call 44; refine (HZ.out _ (by omega) (by omega)).mono ?_; rintro e w1 ⟨rfl, hb1⟩)
          have q0 : w1.cell? ⟨wr.heap.size, 0, none⟩ = some (.bool s.add) := (hb1.cell (p := ⟨wr.heap.size, 0, none⟩) (by simp)).trans (by rw [Lib.cell_of_heap (heap_alloc_new wr _)]; rfl)
          have q1 : w1.cell? ⟨wr.heap.size, 1, none⟩ = some (.int .i64 s.lo) := (hb1.cell (p := ⟨wr.heap.size, 1, none⟩) (by simp)).trans (by rw [Lib.cell_of_heap (heap_alloc_new wr _)]; rfl)
          have q2 : w1.cell? ⟨wr.heap.size, 2, none⟩ = some (.int .i64 s.hi) := (hb1.cell (p := ⟨wr.heap.size, 2, none⟩) (by simp)).trans (by rw [Lib.cell_of_heap (heap_alloc_new wr _)]; rfl)
          have HP := Lib.hid (fun (W : World) (gi : Nat) => HP0.out w1 W gi hb1)
          clear HP0
          have hz1 : wr.heap.size < w1.heap.size := by have := hb1.size; simp at this; omega
          go_region
          all_goals go_wp2_with fail
          all_goals go_region
          all_goals go_wp2_with fail
          · refine (HP.out _ _ (((((Below.refl _ _).alloc (Nat.le_refl _) _).alloc (by simp) _).alloc (by simp; omega) _).drew.drew) (heap3 _ _ _ _)).mono ?_
            rintro e w3 ⟨v, rfl, hrow, hb3⟩
            obtain ⟨hTab, a, c', rfl, d2, d2f⟩ := split_facts HH.out hbel hb1 ((((Below.refl _ _).alloc (Nat.le_refl _) _).alloc (by simp) _).alloc (by simp; omega) _).drew.drew hb3 hrow
            go_wp2_with fail
            go_ret
            exact split_done hTab hrow HL.out HI.out hlt HS.out h0 hr HH.out hp hbel hb1 ((((Below.refl _ _).alloc (Nat.le_refl _) _).alloc (by simp) _).alloc (by simp; omega) _).drew.drew hb3 rfl
          · refine (HP.out _ _ (((((Below.refl _ _).alloc (Nat.le_refl _) _).alloc (by simp) _).alloc (by simp; omega) _).drew.drew) (heap3 _ _ _ _)).mono ?_
            rintro e w3 ⟨v, rfl, hrow, hb3⟩
            obtain ⟨hTab, a, c', rfl, d2, d2f⟩ := split_facts HH.out hbel hb1 ((((Below.refl _ _).alloc (Nat.le_refl _) _).alloc (by simp) _).alloc (by simp; omega) _).drew.drew hb3 hrow
            go_wp2_with fail
            go_ret
            exact split_done hTab hrow HL.out HI.out hlt HS.out h0 hr HH.out hp hbel hb1 ((((Below.refl _ _).alloc (Nat.le_refl _) _).alloc (by simp) _).alloc (by simp; omega) _).drew.drew hb3 rfl
        · have hsz := size_any s
          have HZ := Lib.hid hsz
          have hst := split_at_step l p k r hlt HL.out HI.out h0 (by rw [← HS.out]; exact hr)
          rw [← HS.out] at hst
          have HT := Lib.hid hst
          have hrn : s.len ≤ r := by omega
          clear hsz hst
          go_wp2_with (go_at_call 44; refine (HZ.out _ (by omega) (by omega)).mono ?_; rintro e w1 ⟨rfl, hb1⟩)
          go_roundw
          case rel => exact ⟨k + 1, r - s.len, by omega, by go_num, by go_num, ⟨HT.out.1, HT.out.2, by omega⟩, (hbel.alloc hbel.size _).trans (hb1.mono (by have := hbel.size; simp; omega))⟩
          case measure => simp [intOf]; omega
    · have hk2 : k = l.length := by omega
      subst hk2
      have e1 : splitL l p = l := by rw [hsL, List.take_length, List.drop_length]; simp [splitL]
      have e2 : splitI l p = l.length := by rw [hsI, List.drop_length]; simp [splitI]
      have d2 : wr.cell? ⟨T, 2, none⟩ = some (.slice (some ⟨g, 0, none⟩) l.length c) := (hbel.cell (p := ⟨T, 2, none⟩) hTl).trans c2
      have HH := Lib.hid h
      have E1 := Lib.hid e1
      have E2 := Lib.hid e2
      clear hsL hsI h c0 c1 c2 c3 cf e1 e2
      go_wp2_with fail
      go_ret
      refine ⟨by rw [E2.out]; rfl, ?_, Mine.below hbel HH.out.le⟩
      rw [E1.out]
      exact ⟨_, _, HH.out.below hbel⟩
set_option maxHeartbeats 400000 in
theorem split_nil {w : World} {B T : Nat} {f : ByteArray} {d : List UInt8} {sv : Value} (h : TabV w B T f d [] sv (.slice none 0 0)) :
    Calls Try.prog 49 #[.pointer (some ⟨T, 0, none⟩), .int .i64 0] w (SplitPost w B T f d (splitL [] 0) (splitI [] 0)) := by
  obtain ⟨c0, c1, c2, c3, cf⟩ := h.cells
  have HH := Lib.hid h
  clear h c0 c1 c3 cf
  go_enter Try.func49, Try.ntmps49
  go_wp2_with fail
  refine wp_loop_rounds 1 ?_
  rw [rounds_succ]
  go_wp2
  go_ret
  exact ⟨rfl, ⟨_, _, HH.out⟩, Mine.refl _ _⟩
theorem split_any {w : World} {B T : Nat} {f : ByteArray} {d : List UInt8} {l : List Sp} (h : Tab w B T f d l) (p : Nat) (hp : p ≤ total l)
    (hlen : l.length ≤ 900000) (hf : f.size ≤ 140737488355328) (hd : d.length ≤ 140737488355328) (hp2 : p ≤ 1000000000000000) :
    Calls Try.prog 49 #[.pointer (some ⟨T, 0, none⟩), .int .i64 p] w (SplitPost w B T f d (splitL l p) (splitI l p)) := by
  obtain ⟨sv, lv, h⟩ := h
  rcases h.row with ⟨rfl, rfl⟩ | ⟨g, cap, cur, rfl, hr⟩
  · have : p = 0 := by simpa [total] using hp
    subst this
    exact split_nil h
  · exact split_some h p hp hlen hf hd hp2
end Go.Proofs.Ytckgmofgcddnaaa
