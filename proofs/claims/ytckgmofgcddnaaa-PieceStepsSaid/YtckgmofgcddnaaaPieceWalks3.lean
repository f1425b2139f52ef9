/- What the functions of package piece come to, each once: Insert, Delete. -/
import Derived.Test.YtckgmofgcddnaaaPieceWalks2
import Derived.Deep.RegionWith
namespace Go.Proofs.Ytckgmofgcddnaaa
open Go.RowKit

/-- A table in the making: its number of bytes is whatever. -/
structure TabR (w : World) (B T : Nat) (f : ByteArray) (d : List UInt8) (l : List Sp) (sv lv : Value) (z : Int) : Prop where
  low : B ≤ T
  blk : w.heap[T]? = some (.cells #[.string f, sv, lv, .int .i64 z] 59 (0, 0))
  sec : w.ownsRow B 5 1 sv d.length (Lib.byteCells d)
  row : Row3 w B lv l
theorem TabV.raw {w : World} {B T : Nat} {f : ByteArray} {d : List UInt8} {l : List Sp} {sv lv : Value} (h : TabV w B T f d l sv lv) : TabR w B T f d l sv lv (total l : Nat) := ⟨h.low, h.blk, h.sec, h.row⟩
theorem TabR.done {w : World} {B T : Nat} {f : ByteArray} {d : List UInt8} {l : List Sp} {sv lv : Value} {z : Int} (h : TabR w B T f d l sv lv z) (ho : okAll f.data.toList d l) (hz : z = (total l : Nat)) : TabV w B T f d l sv lv :=
  ⟨h.low, by rw [← hz]; exact h.blk, h.sec, h.row, ho⟩
section
variable {w w' : World} {B T : Nat} {f : ByteArray} {d : List UInt8} {l : List Sp} {sv lv : Value} {z : Int}
theorem TabR.lt (h : TabR w B T f d l sv lv z) : T < w.heap.size := (Array.getElem?_eq_some_iff.1 h.blk).1
theorem TabR.le (h : TabR w B T f d l sv lv z) : B ≤ w.heap.size := by have := h.lt; have := h.low; omega
theorem TabR.below (h : TabR w B T f d l sv lv z) (hb : Below w.heap.size w w') : TabR w' B T f d l sv lv z :=
  ⟨h.low, by rw [hb.block T h.lt]; exact h.blk, owns_below h.sec hb, h.row.below hb⟩
theorem TabR.cells (h : TabR w B T f d l sv lv z) :
    w.cell? ⟨T, 0, none⟩ = some (.string f) ∧ w.cell? ⟨T, 1, none⟩ = some sv ∧ w.cell? ⟨T, 2, none⟩ = some lv ∧ w.cell? ⟨T, 3, none⟩ = some (.int .i64 z) ∧ w.frozen? ⟨T, 1, none⟩ = false ∧ w.frozen? ⟨T, 2, none⟩ = false ∧ w.frozen? ⟨T, 3, none⟩ = false :=
  ⟨by rw [Lib.cell_of_heap h.blk]; rfl, by rw [Lib.cell_of_heap h.blk]; rfl, by rw [Lib.cell_of_heap h.blk]; rfl, by rw [Lib.cell_of_heap h.blk]; rfl, Lib.frozen_of_heap h.blk 1, Lib.frozen_of_heap h.blk 2, Lib.frozen_of_heap h.blk 3⟩
theorem setCell_sec (h : TabR w B T f d l sv lv z) {d' : List UInt8} {sv' : Value} (hs : w.ownsRow B 5 1 sv' d'.length (Lib.byteCells d')) (j : Nat) (u : Value) : (w.setCell ⟨T, j, none⟩ u).ownsRow B 5 1 sv' d'.length (Lib.byteCells d') :=
  hs.kept (row := some T) ⟨rfl, rfl, rfl, by simp [World.setCell], fun k _ hk => heap_setCell_other w ⟨T, j, none⟩ k u (fun e => hk (by simp [e]))⟩ (Or.inr (Lib.ownBlock_ne hs h.blk (by decide)))
theorem setCell_row (h : TabR w B T f d l sv lv z) {l' : List Sp} {lv' : Value} (hr : Row3 w B lv' l') (j : Nat) (u : Value) : Row3 (w.setCell ⟨T, j, none⟩ u) B lv' l' := by
  have hblk := h.blk
  refine hr.keep fun k cs hk _ => ?_
  rw [heap_setCell_other w ⟨T, j, none⟩ k u (fun e => by have e' : k = T := e; subst e'; rw [hblk] at hk; simp at hk)]
  exact hk
theorem TabR.setList (h : TabR w B T f d l sv lv z) {l' : List Sp} {lv' : Value} (hr : Row3 w B lv' l') : TabR (w.setCell ⟨T, 2, none⟩ lv') B T f d l' sv lv' z ∧ Mine B w (w.setCell ⟨T, 2, none⟩ lv') :=
  ⟨⟨h.low, by rw [heap_setCell_same w T 2 _ 59 lv' h.blk]; rfl, setCell_sec h h.sec 2 lv', setCell_row h hr 2 lv'⟩, setCell_mine h.low h.blk 2 lv'⟩
theorem TabR.setSec (h : TabR w B T f d l sv lv z) {d' : List UInt8} {sv' : Value} (hs : w.ownsRow B 5 1 sv' d'.length (Lib.byteCells d')) : TabR (w.setCell ⟨T, 1, none⟩ sv') B T f d' l sv' lv z ∧ Mine B w (w.setCell ⟨T, 1, none⟩ sv') :=
  ⟨⟨h.low, by rw [heap_setCell_same w T 1 _ 59 sv' h.blk]; rfl, setCell_sec h hs 1 sv', setCell_row h h.row 1 sv'⟩, setCell_mine h.low h.blk 1 sv'⟩
theorem TabR.setSize (h : TabR w B T f d l sv lv z) (y : Int) : TabR (w.setCell ⟨T, 3, none⟩ (.int .i64 y)) B T f d l sv lv y ∧ Mine B w (w.setCell ⟨T, 3, none⟩ (.int .i64 y)) :=
  ⟨⟨h.low, by rw [heap_setCell_same w T 3 _ 59 _ h.blk]; rfl, setCell_sec h h.sec 3 _, setCell_row h h.row 3 _⟩, setCell_mine h.low h.blk 3 _⟩
/-- The last piece ahead grows. -/
theorem TabR.setPiece {g n c : Nat} (h : TabR w B T f d l sv (.slice (some ⟨g, 0, none⟩) n c) z) (k m : Nat) (hk : k < l.length) (y : Int) (hy : y = ((l[k].hi + m : Nat) : Int)) :
    TabR (w.setCell ⟨g, k * 3 + 2, none⟩ (.int .i64 y)) B T f d (l.modify k (fun s => ⟨s.add, s.lo, s.hi + m⟩)) sv (.slice (some ⟨g, 0, none⟩) n c) z ∧ Mine B w (w.setCell ⟨g, k * 3 + 2, none⟩ (.int .i64 y)) := by
  subst hy
  have hblk := h.blk
  rcases h.row with ⟨hv, _⟩ | ⟨g', cap, cur, hv, hg, hh, hn, hm, hs, ht⟩
  · simp at hv
  · simp only [Value.slice.injEq, Option.some.injEq, Addr.mk.injEq, and_true] at hv
    obtain ⟨rfl, rfl, rfl⟩ := hv
    have hgT : T ≠ g := fun e => by subst e; rw [hblk] at hh; simp at hh
    have hother : ∀ i, i ≠ g → (w.setCell ⟨g, k * 3 + 2, none⟩ (.int .i64 ((l[k].hi + m : Nat) : Int))).heap[i]? = w.heap[i]? := fun i hi => heap_setCell_other w ⟨g, k * 3 + 2, none⟩ i _ hi
    refine ⟨⟨h.low, by rw [hother T hgT]; exact hblk, ?_, ?_⟩, (Below.refl _ _).setCell hg _, fun i cs ty fr ho hi => ?_⟩
    · exact h.sec.kept (row := some g) ⟨rfl, rfl, rfl, by simp [World.setCell], fun i _ hi => hother i (fun e => hi (by simp [e]))⟩ (Or.inr (Lib.ownBlock_ne h.sec hh (by decide)))
    · refine Or.inr ⟨g, c, cur.setIfInBounds (k * 3 + 2) (.int .i64 ((l[k].hi + m : Nat) : Int)), by simp, hg, ?_, by simpa using hn, hm, by simpa using hs, ?_⟩
      · rw [heap_setCell_same w g (k * 3 + 2) cur 67 _ hh]
      · rw [Array.toList_setIfInBounds, List.length_modify, List.take_set, ht, spCells_set l k m hk]
    · rw [hother i (fun e => by subst e; exact ho.2.2 (ty_eq hi hh))]
      exact hi
end
/-- The second store has grown. -/
theorem TabR.grown {w w' : World} {B T : Nat} {f : ByteArray} {d d' : List UInt8} {l : List Sp} {sv sv' lv : Value} {z : Int} (h : TabR w B T f d l sv lv z) (hg : w.grownBy w' sv.ownBlock) (hs : w'.ownsRow B 5 1 sv' d'.length (Lib.byteCells d')) :
    w'.cell? ⟨T, 1, none⟩ = some sv ∧ w'.frozen? ⟨T, 1, none⟩ = false ∧ w'.cell? ⟨T, 3, none⟩ = some (.int .i64 z) ∧ w'.frozen? ⟨T, 3, none⟩ = false ∧ TabR (w'.setCell ⟨T, 1, none⟩ sv') B T f d' l sv' lv z ∧ Mine B w (w'.setCell ⟨T, 1, none⟩ sv') := by
  have hb : w'.heap[T]? = some (.cells #[.string f, sv, lv, .int .i64 z] 59 (0, 0)) := by
    rw [hg.block T h.lt (fun e => Lib.ownBlock_ne h.sec h.blk (by decide) e.symm)]
    exact h.blk
  have hr : Row3 w' B lv l := h.row.keep fun k cs hk _ => by
    rw [hg.block k (Array.getElem?_eq_some_iff.1 hk).1 (fun e => Lib.ownBlock_ne h.sec hk (by decide) e.symm)]
    exact hk
  have hother : ∀ i, i ≠ T → (w'.setCell ⟨T, 1, none⟩ sv').heap[i]? = w'.heap[i]? := fun i hi => heap_setCell_other w' ⟨T, 1, none⟩ i sv' hi
  refine ⟨by rw [Lib.cell_of_heap hb]; rfl, Lib.frozen_of_heap hb 1, by rw [Lib.cell_of_heap hb]; rfl, Lib.frozen_of_heap hb 3, ⟨h.low, by rw [heap_setCell_same w' T 1 _ 59 sv' hb]; rfl, ?_, ?_⟩, ?_, ?_⟩
  · exact hs.kept (row := some T) ⟨rfl, rfl, rfl, by simp [World.setCell], fun k _ hk => hother k (fun e => hk (by simp [e]))⟩ (Or.inr (Lib.ownBlock_ne hs hb (by decide)))
  · refine hr.keep fun k cs hk _ => ?_
    rw [hother k (fun e => by subst e; rw [hb] at hk; simp at hk)]
    exact hk
  · exact ((Below.refl _ _).grown hg h.le (fun k hk => (h.sec.lt k hk).1)).setCell h.low _
  · intro k cs ty fr ho hk
    have h1 : w'.heap[k]? = some (.cells cs ty fr) := by
      rw [hg.block k (Array.getElem?_eq_some_iff.1 hk).1 (fun e => Lib.ownBlock_ne h.sec hk ho.2.1 e.symm)]
      exact hk
    rw [hother k (fun e => by subst e; exact ho.1 (ty_eq h1 hb))]
    exact h1
theorem byteCells_more (d : List UInt8) (s : ByteArray) : Lib.byteCells (d ++ s.data.toList) = Lib.byteCells d ++ Lib.strCells s := by unfold Lib.byteCells Lib.strCells; rw [List.map_append]
theorem length_more (d : List UInt8) (s : ByteArray) : (d ++ s.data.toList).length = d.length + s.size := by rw [List.length_append, Array.length_toList]; rfl
theorem mine_drewN {B : Nat} {a w : World} (h : Mine B a w) (n : Nat) : Mine B a (w.drewN n) := ⟨below_drewN h.1 n, h.2⟩
set_option maxHeartbeats 400000 in
theorem insert_nil (p : Int) (s : ByteArray) (w : World) :
    Calls Try.prog 33 #[.pointer none, .int .i64 p, .string s] w fun e w' => e = .returned (.int .i64 7) ∧ w = w' := by
  go_enter Try.func33, Try.ntmps33
  go_wp2
  go_ret
  exact ⟨rfl, rfl⟩
set_option maxHeartbeats 400000 in
theorem insert_out {w : World} {B T : Nat} {f : ByteArray} {d : List UInt8} {l : List Sp} (h : Tab w B T f d l) (p : Int) (hp : p < 0 ∨ ((total l : Nat) : Int) < p) (s : ByteArray) :
    Calls Try.prog 33 #[.pointer (some ⟨T, 0, none⟩), .int .i64 p, .string s] w fun e w' => e = .returned (.int .i64 6) ∧ w = w' := by
  obtain ⟨sv, lv, h⟩ := h
  obtain ⟨c0, c1, c2, c3, cf⟩ := h.cells
  clear h cf
  by_cases h0 : p < 0
  · clear hp
    go_enter Try.func33, Try.ntmps33
    go_wp2
    go_ret
    exact ⟨rfl, rfl⟩
  · have h1 : ((total l : Nat) : Int) < p := by omega
    clear hp
    go_enter Try.func33, Try.ntmps33
    go_wp2
    go_ret
    exact ⟨rfl, rfl⟩
set_option maxHeartbeats 400000 in
theorem insert_empty {w : World} {B T : Nat} {f : ByteArray} {d : List UInt8} {l : List Sp} (h : Tab w B T f d l) (p : Nat) (hp : p ≤ total l) (s : ByteArray) (hs : s.toList.isEmpty = true) :
    Calls Try.prog 33 #[.pointer (some ⟨T, 0, none⟩), .int .i64 p, .string s] w fun e w' => e = .returned (.int .i64 0) ∧ w = w' := by
  obtain ⟨sv, lv, h⟩ := h
  obtain ⟨c0, c1, c2, c3, cf⟩ := h.cells
  clear h cf
  go_enter Try.func33, Try.ntmps33
  go_wp2
  go_ret
  exact ⟨rfl, rfl⟩
def InsertPost (w : World) (B T : Nat) (f : ByteArray) (d : List UInt8) (l : List Sp) (e : Ending) (w' : World) : Prop := e = .returned (.int .i64 0) ∧ Tab w' B T f d l ∧ Mine B w w'
/-- The call of put in Insert. -/
theorem insert_call {w W : World} {B T gi m : Nat} {f : ByteArray} {d : List UInt8} {l : List Sp} {sv lv : Value} {z : Int} (h : TabR w B T f d l sv lv z) (hlen : l.length ≤ 900000) (i : Nat) (hi : i ≤ l.length) (hb : Below w.heap.size w W)
    (hgi : W.heap[gi]? = some (.cells #[.bool true, .int .i64 d.length, .int .i64 ((d.length : Int) + (m : Int))] 67)) :
    Calls Try.prog 51 #[.pointer (some ⟨T, 0, none⟩), .int .i64 i, .int .i64 i, .slice (some ⟨gi, 0, none⟩) 1 1] W (PutPost W B (putL l i i [⟨true, d.length, d.length + m⟩])) := by
  have hT := h.below hb
  refine put_any hT.blk hT.row hT.le i i hi hi (Or.inr ⟨⟨gi, 0, none⟩, 1, rfl, ?_⟩) (by simp; omega)
  intro j u hj
  rw [add_plain0, Lib.cell_of_heap hgi]
  have hj3 : j < 3 := by
    have := (List.getElem?_eq_some_iff.1 hj).1
    rw [spCells_length] at this
    exact this
  rw [← hj]
  match j, hj3 with
  | 0, _ => rfl
  | 1, _ => rfl
  | 2, _ => rfl
theorem put_facts {w W w3 : World} {B T : Nat} {f : ByteArray} {d : List UInt8} {l l' : List Sp} {sv lv v : Value} {z : Int} (h : TabR w B T f d l sv lv z) (hb : Below w.heap.size w W) (hb3 : Below W.heap.size W w3) (hr : Row3 w3 B v l') :
    Below w.heap.size w w3 ∧ TabR w3 B T f d l sv lv z ∧ (∃ a c, v = .slice a l'.length c) ∧ w3.cell? ⟨T, 2, none⟩ = some lv ∧ w3.frozen? ⟨T, 2, none⟩ = false := by
  have h3 := hb.trans (hb3.mono hb.size)
  have hT := h.below h3
  obtain ⟨a, c, hv, _⟩ := hr.shape
  exact ⟨h3, hT, ⟨a, c, hv⟩, hT.cells.2.2.1, hT.cells.2.2.2.2.2.1⟩
theorem not_empty (s : ByteArray) (h : s.toList.isEmpty = false) : s.data.toList ≠ [] := by
  rw [ByteArray.toList_eq] at h
  intro e
  rw [e] at h
  cases h
theorem insert_done {w w3 w4 w6 : World} {B T p i : Nat} {f : ByteArray} {d : List UInt8} {l l2 l3 : List Sp} {s : ByteArray} {sv lv : Value} {e : Ending} (he : e = .returned (.int .i64 0)) (hl2 : l2 = splitL l p) (hi : i = splitI l p)
    (hl3 : l3 = insL l2 i d.length s.size) (hs : okAll f.data.toList d l2 ∧ i ≤ l2.length ∧ body f.data.toList d (l2.take i) = (body f.data.toList d l).take p ∧ body f.data.toList d (l2.drop i) = (body f.data.toList d l).drop p ∧ l2.length ≤ l.length + 1 ∧ total (l2.take i) = p ∧ total l2 = total l)
    (h1 : Mine B w w3) (h2 : Mine B w3 w4) (h3 : Mine B w4 w6) (hR : TabR w6 B T f (d ++ s.data.toList) l3 sv lv (total l2 : Nat)) (hne : s.toList.isEmpty = false) :
    InsertPost w B T f (d ++ s.data.toList) (insertL l p d.length s.size) e (w6.setCell ⟨T, 3, none⟩ (.int .i64 ((total l2 : Nat) + (s.size : Int)))) := by
  have hl : s.data.toList.length = s.size := by rw [Array.length_toList]; rfl
  obtain ⟨j1, j2, j3, j4⟩ := ins_spec hs.1 i hs.2.1 (not_empty s hne)
  rw [hl, ← hl3] at j1 j4
  have e3 : insertL l p d.length s.size = l3 := by rw [hl3, hl2, hi]; rfl
  rw [e3]
  have h4 := hR.setSize ((total l2 : Nat) + (s.size : Int))
  exact ⟨he, ⟨_, _, h4.1.done j1 (by rw [j4]; omega)⟩, ((h1.trans h2).trans h3).trans h4.2⟩
set_option maxHeartbeats 1000000 in
theorem insert_put {w : World} {B T : Nat} {f : ByteArray} {d : List UInt8} {l : List Sp} (h : Tab w B T f d l) (p : Nat) (hp : p ≤ total l) (s : ByteArray) (hs : s.toList.isEmpty = false)
    (hlen : l.length ≤ 800000) (hf : f.size ≤ 140737488355328) (hd : d.length + s.size ≤ 140737488355328) (ht : total l + s.size ≤ 1000000000000000) (hg : grows (splitL l p) (splitI l p) d.length = false) :
    Calls Try.prog 33 #[.pointer (some ⟨T, 0, none⟩), .int .i64 p, .string s] w (InsertPost w B T f (d ++ s.data.toList) (insertL l p d.length s.size)) := by
  obtain ⟨i0, hi, hz0, hz1, hz2⟩ := info_parts info5
  have HT := Lib.hid h
  obtain ⟨sv, lv, h⟩ := h
  obtain ⟨c0, c1, c2, c3, cf⟩ := h.cells
  have hsp := split_spec l p h.ok hp
  obtain ⟨l2, hl2⟩ : ∃ l2, l2 = splitL l p := ⟨_, rfl⟩
  obtain ⟨i, hi2⟩ : ∃ i, i = splitI l p := ⟨_, rfl⟩
  have hc : ∀ w, Tab w B T f d l → Calls Try.prog 49 #[.pointer (some ⟨T, 0, none⟩), .int .i64 p] w (SplitPost w B T f d l2 i) := fun w h => by rw [hl2, hi2]; exact split_any h p hp (by omega) hf (by omega) (by omega)
  rw [← hl2, ← hi2] at hsp hg
  have HC := Lib.hid hc
  have HG := Lib.hid hg
  have HS := Lib.hid hsp
  have HL := Lib.hid hl2
  have HI := Lib.hid hi2
  have hil : i ≤ 800001 := by have := hsp.2.1; have := hsp.2.2.2.2.1; omega
  clear hc hg hsp hl2 hi2 h cf c0 c1 c2
  go_enter Try.func33, Try.ntmps33
  go_wp2_with (go_at_call 49; refine (HC.out _ HT.out).mono ?_; rintro e w1 ⟨rfl, hT1, hm1⟩)
  have hgr := grow_any hT1 i HS.out.2.1
  rw [HG.out] at hgr
  obtain ⟨sv1, lv1, hV1⟩ := hT1
  refine hgr.mono ?_
  rintro e w2 ⟨rfl, n, rfl⟩
  obtain ⟨d0, d1, d2, d3, df⟩ := hV1.cells
  obtain ⟨sa, sc, rfl, hsc⟩ := owns_shape hV1.sec
  obtain ⟨la, lc, rfl, hlc⟩ := hV1.row.shape
  have hput := fun (W : World) (gi : Nat) => insert_call (W := W) (gi := gi) (m := s.size) hV1.raw (by have := HS.out.2.2.2.2.1; omega) i HS.out.2.1
  have HP := Lib.hid hput
  have HV := Lib.hid hV1
  clear hput hV1 hgr df c3
  have hw1 : IntKind.i64.wrap ((d.length : Int) + (s.size : Int)) = (d.length : Int) + (s.size : Int) := IntWalk.i64_in _ (by omega)
  go_wp2_with fail
  go_region_with (go_at_call 51; refine (HP.out _ w1.heap.size ((below_drewN (Below.refl _ _) _).alloc (Nat.le_refl _) _) (heap_alloc_new (w1.drewN (n + 1)) _)).mono ?_; rintro e w3 ⟨v, rfl, hrow, hb3⟩; obtain ⟨hb4, hR3, ⟨la3, lc3, rfl⟩, e2, ef2⟩ := put_facts HV.out.raw ((below_drewN (Below.refl _ _) _).alloc (Nat.le_refl _) _) hb3 hrow)
  all_goals
    have hR4 := hR3.setList hrow
    obtain ⟨g0, g1, g2, g3, gf1, gf2, gf3⟩ := hR4.1.cells
    have HR4 := Lib.hid hR4
    clear hw1 hR4 hR3 d0 d1 d2 d3 e2 ef2 g0 g2 g3 gf1 gf2 gf3
    go_wp2_with (at_builtin; refine Lib.wpList_append_own_string _ rfl _ _ 38 9 rfl B 5 i0 Try.underlying38 Try.underlying9 hi hz0 hz1 hz2 _ _ _ rfl HR4.out.1.sec s rfl (by unfold maxLen; omega) (by omega) HR4.out.1.le ?_)
    intro v' w5 hown' hgrow _
    rw [← byteCells_more, ← length_more] at hown'
    obtain ⟨k1, kf1, k3, kf3, hR5, hm5⟩ := HR4.out.1.grown hgrow hown'
    obtain ⟨va, vc, rfl, _⟩ := owns_shape hown'
    rw [length_more] at hR5 hm5
    have HR5 := Lib.hid hR5
    have HM5 := Lib.hid hm5
    have ht2 : total l2 + s.size ≤ 1000000000000000 := by have := HS.out.2.2.2.2.2.2; omega
    clear hown' hgrow hR5 hm5 g1
    go_wp2_with fail
    go_ret
    exact insert_done rfl HL.out HI.out (by unfold insL; rw [HG.out]; rfl) HS.out (hm1.trans (Mine.below hb4 HV.out.le)) HR4.out.2 HM5.out HR5.out hs
set_option maxHeartbeats 1000000 in
theorem insert_grow {w : World} {B T : Nat} {f : ByteArray} {d : List UInt8} {l : List Sp} (h : Tab w B T f d l) (p : Nat) (hp : p ≤ total l) (s : ByteArray) (hs : s.toList.isEmpty = false)
    (hlen : l.length ≤ 800000) (hf : f.size ≤ 140737488355328) (hd : d.length + s.size ≤ 140737488355328) (ht : total l + s.size ≤ 1000000000000000) (hg : grows (splitL l p) (splitI l p) d.length = true) :
    Calls Try.prog 33 #[.pointer (some ⟨T, 0, none⟩), .int .i64 p, .string s] w (InsertPost w B T f (d ++ s.data.toList) (insertL l p d.length s.size)) := by
  obtain ⟨i0, hi, hz0, hz1, hz2⟩ := info_parts info5
  have HT := Lib.hid h
  obtain ⟨sv, lv, h⟩ := h
  obtain ⟨c0, c1, c2, c3, cf⟩ := h.cells
  have hsp := split_spec l p h.ok hp
  obtain ⟨l2, hl2⟩ : ∃ l2, l2 = splitL l p := ⟨_, rfl⟩
  obtain ⟨i, hi2⟩ : ∃ i, i = splitI l p := ⟨_, rfl⟩
  have hc : ∀ w, Tab w B T f d l → Calls Try.prog 49 #[.pointer (some ⟨T, 0, none⟩), .int .i64 p] w (SplitPost w B T f d l2 i) := fun w h => by rw [hl2, hi2]; exact split_any h p hp (by omega) hf (by omega) (by omega)
  rw [← hl2, ← hi2] at hsp hg
  have HC := Lib.hid hc
  have HG := Lib.hid hg
  have HS := Lib.hid hsp
  have HL := Lib.hid hl2
  have HI := Lib.hid hi2
  have hil : i ≤ 800001 := by have := hsp.2.1; have := hsp.2.2.2.2.1; omega
  clear hc hg hsp hl2 hi2 h cf c0 c1 c2
  go_enter Try.func33, Try.ntmps33
  go_wp2_with (go_at_call 49; refine (HC.out _ HT.out).mono ?_; rintro e w1 ⟨rfl, hT1, hm1⟩)
  have hgr := grow_any hT1 i HS.out.2.1
  rw [HG.out] at hgr
  obtain ⟨sv1, lv1, hV1⟩ := hT1
  refine hgr.mono ?_
  rintro e w2 ⟨rfl, n, rfl⟩
  obtain ⟨d0, d1, d2, d3, df⟩ := hV1.cells
  obtain ⟨sa, sc, rfl, hsc⟩ := owns_shape hV1.sec
  obtain ⟨j, hj, rfl, g, lc, rfl⟩ : ∃ j, j < l2.length ∧ i = j + 1 ∧ ∃ g lc, lv1 = .slice (some ⟨g, 0, none⟩) l2.length lc := by
    cases i with
    | zero => have := HG.out; simp [grows] at this
    | succ j =>
      have hil2 := HS.out.2.1
      rcases hV1.row with ⟨_, h0⟩ | ⟨g, cap, cur, hv, _⟩
      · rw [h0] at hil2; simp at hil2
      · exact ⟨j, by omega, rfl, g, cap, hv⟩
  obtain ⟨p0, p1, p2, p3⟩ := hV1.row.piece j hj
  have hjh : l2[j].hi ≤ 140737488355328 := by
    have h2 := (hV1.ok _ (List.getElem_mem hj)).2
    unfold Sp.src at h2
    have : f.data.toList.length = f.size := by rw [Array.length_toList]; rfl
    split at h2 <;> omega
  obtain ⟨_, _, _, hlc, hcm, _, _⟩ := hV1.row.at
  have hVd : TabV (w1.drewN n) B T f d l2 (.slice sa d.length sc) (.slice (some ⟨g, 0, none⟩) l2.length lc) := hV1.below (below_drewN (Below.refl _ _) n)
  have hR4 := hVd.raw.setPiece j s.size hj ((l2[j].hi : Int) + (s.size : Int)) (by omega)
  obtain ⟨_, g1, _, _, _, _, _⟩ := hR4.1.cells
  have HR4 := Lib.hid hR4
  have ht2 : total l2 + s.size ≤ 1000000000000000 := by have := HS.out.2.2.2.2.2.2; omega
  have heq : l2.modify j (fun q => (⟨q.add, q.lo, q.hi + s.size⟩ : Sp)) = insL l2 (j + 1) d.length s.size := by unfold insL; rw [HG.out]; rfl
  have HE := Lib.hid heq
  clear hV1 hVd hgr df c3 d0 d1 d3 hcm hR4 heq
  go_wp2_with (at_builtin; refine Lib.wpList_append_own_string _ rfl _ _ 38 9 rfl B 5 i0 Try.underlying38 Try.underlying9 hi hz0 hz1 hz2 _ _ _ rfl HR4.out.1.sec s rfl (by unfold maxLen; omega) (by omega) HR4.out.1.le ?_)
  intro v' w5 hown' hgrow _
  rw [← byteCells_more, ← length_more] at hown'
  obtain ⟨k1, kf1, k3, kf3, hR5, hm5⟩ := HR4.out.1.grown hgrow hown'
  obtain ⟨va, vc, rfl, _⟩ := owns_shape hown'
  rw [length_more] at hR5 hm5
  have HR5 := Lib.hid hR5
  have HM5 := Lib.hid hm5
  clear hown' hgrow hR5 hm5 g1 d2 p0 p1 p2 p3
  go_wp2_with fail
  go_ret
  exact insert_done rfl HL.out HI.out HE.out HS.out (mine_drewN hm1 n) HR4.out.2 HM5.out HR5.out hs
theorem insert_in {w : World} {B T : Nat} {f : ByteArray} {d : List UInt8} {l : List Sp} (h : Tab w B T f d l) (p : Nat) (hp : p ≤ total l) (s : ByteArray) (hs : s.toList.isEmpty = false)
    (hlen : l.length ≤ 800000) (hf : f.size ≤ 140737488355328) (hd : d.length + s.size ≤ 140737488355328) (ht : total l + s.size ≤ 1000000000000000) :
    Calls Try.prog 33 #[.pointer (some ⟨T, 0, none⟩), .int .i64 p, .string s] w (InsertPost w B T f (d ++ s.data.toList) (insertL l p d.length s.size)) := by
  cases hg : grows (splitL l p) (splitI l p) d.length
  · exact insert_put h p hp s hs hlen hf hd ht hg
  · exact insert_grow h p hp s hs hlen hf hd ht hg
end Go.Proofs.Ytckgmofgcddnaaa
