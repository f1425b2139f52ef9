/- What do, lives and few of the law file come to. -/
import Derived.Test.YtckgmofgcddnaaaPieceDo
namespace Go.Proofs.Ytckgmofgcddnaaa
open Go.RowKit

/-- A step's box. -/
def boxed (k p q : Int) (s : ByteArray) : Array Value := #[.int .i64 k, .int .i64 p, .int .i64 q, .string s]
def BoxAt (w : World) (b : Nat) (k p q : Int) (s : ByteArray) : Prop := w.heap[b]? = some (.cells (boxed k p q s) 51 (0, 0)) ∧ w.cell? ⟨b, 0, none⟩ = some (.int .i64 k) ∧ w.cell? ⟨b, 1, none⟩ = some (.int .i64 p) ∧ w.cell? ⟨b, 2, none⟩ = some (.int .i64 q) ∧ w.cell? ⟨b, 3, none⟩ = some (.string s)
theorem boxAt_blk {w : World} {b : Nat} {k p q : Int} {s : ByteArray} (h : w.heap[b]? = some (.cells (boxed k p q s) 51 (0, 0))) : BoxAt w b k p q s :=
  ⟨h, by rw [Lib.cell_of_heap h]; rfl, by rw [Lib.cell_of_heap h]; rfl, by rw [Lib.cell_of_heap h]; rfl, by rw [Lib.cell_of_heap h]; rfl⟩
theorem BoxAt.mine {w w' : World} {B b : Nat} {k p q : Int} {s : ByteArray} (h : BoxAt w b k p q s) (m : Mine B w w') : BoxAt w' b k p q s := boxAt_blk (m.2 b _ 51 _ (by unfold Alien; decide) h.1)
theorem BoxAt.yours {w w' : World} {B b : Nat} {k p q : Int} {s : ByteArray} (h : BoxAt w b k p q s) (m : Yours B w w') : BoxAt w' b k p q s := boxAt_blk (m.2 b _ 51 _ (by decide) h.1)
theorem BoxAt.mk (w : World) (k p q : Int) (s : ByteArray) : BoxAt (w.alloc (.cells (boxed k p q s) 51)) w.heap.size k p q s := boxAt_blk (heap_alloc_new w _)
def Both (w : World) (B T X : Nat) (t : Twin) : Prop := Tab w B T t.f t.d t.l ∧ Ref w B X t.S t.a t.n
def DoPost (w : World) (B T X : Nat) (t : Twin) (e : Ending) (w' : World) : Prop := e = .returned (.bool true) ∧ Both w' B T X t ∧ Below B w w'
set_option maxHeartbeats 2000000 in
theorem do_ins {w : World} {B T X : Nat} {t : Twin} {i c z : Nat} (h : Both w B T X t) (g : t.Good i c z) (hi : i ≤ 1000) (hc : c ≤ 20000) (hz : z ≤ 20000) (p q : Int) (s : ByteArray) (hs : s.size ≤ 20000) :
    Calls Try.prog 26 #[.pointer (some ⟨T, 0, none⟩), .pointer (some ⟨X, 0, none⟩), .agg #[.int .i64 0, .int .i64 p, .int .i64 q, .string s]] w (DoPost w B T X (t.step 0 p q s)) := by
  obtain ⟨hT, hR⟩ := h
  have e0 : t.step 0 p q s = ⟨t.f, insD t.d t.S.size p s, insLL t.d t.l t.S.size p s, insS t.S p s, insA t.S.size t.a p s, insN t.S.size t.n p⟩ := by unfold Twin.step; rw [if_pos rfl]
  rw [e0]
  have hN := g.total
  have g3 := g.add; have g4 := g.few; have g5 := g.steps; have g6 := g.put; have g7 := g.len; have g8 := g.first
  have hB := hT.le
  have hb0 := BoxAt.mk w 0 p q s
  have hT0 := hT.below ((Below.refl _ w).alloc (Nat.le_refl _) (.cells (boxed 0 p q s) 51)).drew
  have hR0 := hR.below ((Below.refl _ w).alloc (Nat.le_refl _) (.cells (boxed 0 p q s) 51)).drew
  have hbel : Below B w (w.alloc (.cells (boxed 0 p q s) 51)).drew := ((Below.refl _ w).alloc hB _).drew
  have hb0' : BoxAt (w.alloc (.cells (boxed 0 p q s) 51)).drew w.heap.size 0 p q s := hb0
  unfold boxed at hb0 hb0' hT0 hR0 hbel
  obtain ⟨c0, c1, c2, c3, c4⟩ := id hb0
  have HT := Lib.hid hN
  clear hN hT hR e0
  go_enter Try.func26, Try.ntmps26
  go_wp2_with fail
  go_region_held3 (fun w' => w'.cell? ⟨w.heap.size, 1, none⟩ = some (.int .i64 p) ∧ w'.cell? ⟨w.heap.size, 3, none⟩ = some (.string s))
    (first
      | go_keep
      | exact ⟨(hb1.2.2.1), (hb1.2.2.2.2)⟩)
    (first
      | (go_at_call 33
         refine (tins_any hT0 t.S.size HT.out p s (by omega) (by omega) (by omega) (by omega)).mono ?_
         rintro e w1 ⟨rfl, hT1, hM1⟩
         have hb1 := hb0'.mine hM1)
      | (go_at_call 40
         refine (rins_any (hR0.mine hM1) p s (by omega) (by omega) (by omega) (by omega)).mono ?_
         rintro e w2 ⟨rfl, hR2, hY2⟩
         have hb1 := hb1.yours hY2))
  go_wp2_with fail
  go_ret
  exact ⟨rfl, ⟨hT1.yours hY2, hR2⟩, (hbel.trans hM1.1).trans hY2.1⟩
set_option maxHeartbeats 2000000 in
theorem do_del {w : World} {B T X : Nat} {t : Twin} {i c z : Nat} (h : Both w B T X t) (g : t.Good i c z) (hi : i ≤ 1000) (hc : c ≤ 20000) (hz : z ≤ 20000) (p q : Int) (s : ByteArray) :
    Calls Try.prog 26 #[.pointer (some ⟨T, 0, none⟩), .pointer (some ⟨X, 0, none⟩), .agg #[.int .i64 1, .int .i64 p, .int .i64 q, .string s]] w (DoPost w B T X (t.step 1 p q s)) := by
  obtain ⟨hT, hR⟩ := h
  have e0 : t.step 1 p q s = ⟨t.f, t.d, delLL t.l t.S.size p q, delS t.S p q, t.a, delN t.S.size t.n p q⟩ := by unfold Twin.step; rw [if_neg (by decide), if_pos rfl]
  rw [e0]
  have hN := g.total
  have g3 := g.add; have g4 := g.few; have g5 := g.steps; have g6 := g.put; have g7 := g.len; have g8 := g.first
  have hB := hT.le
  have hb0 := BoxAt.mk w 1 p q s
  have hT0 := hT.below ((Below.refl _ w).alloc (Nat.le_refl _) (.cells (boxed 1 p q s) 51)).drew
  have hR0 := hR.below ((Below.refl _ w).alloc (Nat.le_refl _) (.cells (boxed 1 p q s) 51)).drew
  have hbel : Below B w (w.alloc (.cells (boxed 1 p q s) 51)).drew := ((Below.refl _ w).alloc hB _).drew
  have hb0' : BoxAt (w.alloc (.cells (boxed 1 p q s) 51)).drew w.heap.size 1 p q s := hb0
  unfold boxed at hb0 hb0' hT0 hR0 hbel
  obtain ⟨c0, c1, c2, c3, c4⟩ := id hb0
  have HT := Lib.hid hN
  clear hN hT hR e0
  go_enter Try.func26, Try.ntmps26
  go_wp2_with fail
  go_region_held3 (fun w' => w'.cell? ⟨w.heap.size, 1, none⟩ = some (.int .i64 p) ∧ w'.cell? ⟨w.heap.size, 2, none⟩ = some (.int .i64 q))
    (first
      | go_keep
      | exact ⟨(hb1.2.2.1), (hb1.2.2.2.1)⟩)
    (first
      | (go_at_call 34
         refine (tdel_any hT0 t.S.size HT.out p q (by omega) (by omega) (by omega) (by omega)).mono ?_
         rintro e w1 ⟨rfl, hT1, hM1⟩
         have hb1 := hb0'.mine hM1)
      | (go_at_call 41
         refine (rdel_any (hR0.mine hM1) p q (by omega) (by omega)).mono ?_
         rintro e w2 ⟨rfl, hR2, hY2⟩
         have hb1 := hb1.yours hY2))
  go_wp2_with fail
  go_ret
  exact ⟨rfl, ⟨hT1.yours hY2, hR2⟩, (hbel.trans hM1.1).trans hY2.1⟩
set_option maxHeartbeats 2000000 in
theorem do_pack {w : World} {B T X : Nat} {t : Twin} {i c z : Nat} (h : Both w B T X t) (g : t.Good i c z) (hi : i ≤ 1000) (hc : c ≤ 20000) (hz : z ≤ 20000) (k p q : Int) (s : ByteArray) (h0 : k ≠ 0) (h1 : k ≠ 1) :
    Calls Try.prog 26 #[.pointer (some ⟨T, 0, none⟩), .pointer (some ⟨X, 0, none⟩), .agg #[.int .i64 k, .int .i64 p, .int .i64 q, .string s]] w (DoPost w B T X (t.step k p q s)) := by
  obtain ⟨hT, hR⟩ := h
  have e0 : t.step k p q s = ⟨allOf t.f t.d t.l, [], newL (total t.l), t.S, 0, 0⟩ := by unfold Twin.step; rw [if_neg h0, if_neg h1]
  rw [e0]
  have hN := g.total
  have g3 := g.add; have g4 := g.few; have g5 := g.steps; have g6 := g.put; have g7 := g.len; have g8 := g.first
  have hB := hT.le
  have hb0 := BoxAt.mk w k p q s
  have hT0 := hT.below ((Below.refl _ w).alloc (Nat.le_refl _) (.cells (boxed k p q s) 51))
  have hR0 := hR.below ((Below.refl _ w).alloc (Nat.le_refl _) (.cells (boxed k p q s) 51))
  have hbel : Below B w (w.alloc (.cells (boxed k p q s) 51)) := ((Below.refl _ w).alloc hB _)
  unfold boxed at hb0 hT0 hR0 hbel
  obtain ⟨c0, c1, c2, c3, c4⟩ := id hb0
  have k0 : (k == 0) = false := by simpa using h0
  have k1 : (k == 1) = false := by simpa using h1
  have HT := Lib.hid hN
  have hc := compact_any hT0 (by omega) (by omega) (by omega) (by omega)
  have HC := Lib.hid hc
  clear hN hT hR e0 hc
  go_enter Try.func26, Try.ntmps26
  go_wp2_with fail
  go_at_call 35
  refine HC.out.mono ?_
  rintro e w1 ⟨rfl, hT1, hM1⟩
  go_wp2_with fail
  go_at_call 42
  refine (refcompact_any (hR0.mine hM1)).mono ?_
  rintro e w2 ⟨rfl, hR2, hY2⟩
  go_wp2_with fail
  go_ret
  exact ⟨rfl, ⟨hT1.yours hY2, hR2⟩, (hbel.trans hM1.1).trans hY2.1⟩
theorem do_any {w : World} {B T X : Nat} {t : Twin} {i c z : Nat} (h : Both w B T X t) (g : t.Good i c z) (hi : i ≤ 1000) (hc : c ≤ 20000) (hz : z ≤ 20000) (k p q : Int) (s : ByteArray) (hs : s.size ≤ 20000) :
    Calls Try.prog 26 #[.pointer (some ⟨T, 0, none⟩), .pointer (some ⟨X, 0, none⟩), .agg #[.int .i64 k, .int .i64 p, .int .i64 q, .string s]] w (DoPost w B T X (t.step k p q s)) := by
  by_cases h0 : k = 0
  · subst h0; exact do_ins h g hi hc hz p q s hs
  · by_cases h1 : k = 1
    · subst h1; exact do_del h g hi hc hz p q s
    · exact do_pack h g hi hc hz k p q s h0 h1
set_option maxHeartbeats 2000000 in
/-- The document's example is told. -/
theorem lives_any (w : World) : Calls Try.prog 24 #[] w fun e w' => e = .returned (.bool true) ∧ Below w.heap.size w w' := by
  have hn := new_any ⟨#[97, 99]⟩ w w.heap.size (Nat.le_refl _) (by decide)
  have HN := Lib.hid hn
  clear hn
  go_enter Try.func24, Try.ntmps24
  go_wp2_with fail
  go_at_call 25
  refine HN.out.mono ?_
  rintro e w1 ⟨rfl, hT1, hb1⟩
  go_wp2_with fail
  go_at_call 33
  refine (insert_in hT1 1 (by decide) ⟨#[98]⟩ (by rw [ByteArray.toList_eq]; rfl) (by decide) (by decide) (by decide) (by decide)).mono ?_
  rintro e w2 ⟨rfl, hT2, hM2⟩
  have hs := string_any hT2 (by decide) (by decide) (by decide) (by decide)
  have hs2 : allOf ⟨#[97, 99]⟩ ([] ++ (⟨#[98]⟩ : ByteArray).data.toList) (insertL (newL (⟨#[97, 99]⟩ : ByteArray).size) 1 ([] : List UInt8).length (⟨#[98]⟩ : ByteArray).size) = ⟨#[97, 98, 99]⟩ := ba_same _ _ (by decide)
  rw [hs2] at hs
  have HS := Lib.hid hs
  have HT := Lib.hid hT2
  have hl : (insertL (newL (⟨#[97, 99]⟩ : ByteArray).size) 1 ([] : List UInt8).length (⟨#[98]⟩ : ByteArray).size).length = 3 := by decide
  clear hs hs2 hT1 hT2 HN
  go_wp2_with fail
  go_at_call 30
  refine HS.out.mono ?_
  rintro e w3 ⟨rfl, hb3⟩
  have hp := pieces_any (HT.out.below hb3)
  rw [hl] at hp
  have HP := Lib.hid hp
  clear hp hl
  go_wp2_with fail
  go_at_call 29
  refine HP.out.mono ?_
  rintro e w4 ⟨rfl, rfl⟩
  go_wp2_with fail
  go_ret
  exact ⟨rfl, (hb1.trans hM2.1).trans (hb3.mono (hb1.trans hM2.1).size)⟩
end Go.Proofs.Ytckgmofgcddnaaa
