/- What the functions of the reference for package piece come to, each once. -/
import Derived.Test.YtckgmofgcddnaaaRows
import Derived.WalkKit
import Derived.WalkSpells
import Derived.WalkLawsBesides
import Derived.Lib.Hide
import Derived.Lib.Builder
import Derived.Deep.QuietTactic
import Derived.BigQuiet
import Derived.BigRegion
namespace Go.Proofs.Ytckgmofgcddnaaa
open Go.RowKit

/-- The reference's text in memory: its bytes, how many were put in, how often it was changed. -/
structure Ref (w : World) (B X : Nat) (S : ByteArray) (a n : Nat) : Prop where
  low : B ≤ X
  blk : w.heap[X]? = some (.cells #[.string S, .int .i64 a, .int .i64 n] 48 (0, 0))
/-- What lies below B is as it was, and so is what is not the reference's. -/
def Yours (B : Nat) (w w' : World) : Prop := Below B w w' ∧ ∀ (k : Nat) (cs : Array Value) (ty : TypeId) (fr : Nat × Nat), ty ≠ 48 → w.heap[k]? = some (.cells cs ty fr) → w'.heap[k]? = some (.cells cs ty fr)
section
variable {w w' : World} {B X : Nat} {S : ByteArray} {a n : Nat}
theorem Ref.lt (h : Ref w B X S a n) : X < w.heap.size := (Array.getElem?_eq_some_iff.1 h.blk).1
theorem Ref.le (h : Ref w B X S a n) : B ≤ w.heap.size := by have := h.lt; have := h.low; omega
theorem Ref.below (h : Ref w B X S a n) (hb : Below w.heap.size w w') : Ref w' B X S a n := ⟨h.low, by rw [hb.block X h.lt]; exact h.blk⟩
theorem Ref.cells (h : Ref w B X S a n) : w.cell? ⟨X, 0, none⟩ = some (.string S) ∧ w.cell? ⟨X, 1, none⟩ = some (.int .i64 a) ∧ w.cell? ⟨X, 2, none⟩ = some (.int .i64 n) ∧
    w.frozen? ⟨X, 0, none⟩ = false ∧ w.frozen? ⟨X, 1, none⟩ = false ∧ w.frozen? ⟨X, 2, none⟩ = false :=
  ⟨by rw [Lib.cell_of_heap h.blk]; rfl, by rw [Lib.cell_of_heap h.blk]; rfl, by rw [Lib.cell_of_heap h.blk]; rfl, Lib.frozen_of_heap h.blk 0, Lib.frozen_of_heap h.blk 1, Lib.frozen_of_heap h.blk 2⟩
theorem Yours.refl (B : Nat) (w : World) : Yours B w w := ⟨Below.refl _ _, fun _ _ _ _ _ h => h⟩
theorem Yours.drew {u : World} (h : Yours B u w) : Yours B u w.drew := ⟨h.1.drew, h.2⟩
theorem Yours.trans {b c : World} (h : Yours B w b) (k : Yours B b c) : Yours B w c := ⟨h.1.trans k.1, fun i cs ty fr ho hi => k.2 i cs ty fr ho (h.2 i cs ty fr ho hi)⟩
theorem Ref.set (h : Ref w B X S a n) (j : Nat) (v : Value) : (w.setCell ⟨X, j, none⟩ v).heap[X]? = some (.cells (#[.string S, .int .i64 a, .int .i64 n].setIfInBounds j v) 48 (0, 0)) ∧ Yours B w (w.setCell ⟨X, j, none⟩ v) := by
  refine ⟨heap_setCell_same w X j _ 48 v h.blk, (Below.refl _ _).setCell h.low _, fun k cs ty fr ho hk => ?_⟩
  have hblk := h.blk
  rw [heap_setCell_other w ⟨X, j, none⟩ k v (fun e => by have e' : k = X := e; subst e'; rw [hblk] at hk; simp only [Option.some.injEq, Obj.cells.injEq] at hk; exact ho hk.2.1.symm)]
  exact hk
end
theorem ref_three {w : World} {B X : Nat} {S : ByteArray} {a n : Nat} (h : Ref w B X S a n) (S' : ByteArray) (y z : Int) (a' n' : Nat) (hy : y = a') (hz : z = n') :
    Ref (((w.setCell ⟨X, 0, none⟩ (.string S')).setCell ⟨X, 1, none⟩ (.int .i64 y)).setCell ⟨X, 2, none⟩ (.int .i64 z)) B X S' a' n' ∧ Yours B w (((w.setCell ⟨X, 0, none⟩ (.string S')).setCell ⟨X, 1, none⟩ (.int .i64 y)).setCell ⟨X, 2, none⟩ (.int .i64 z)) := by
  subst hy; subst hz
  have h1 := h.set 0 (.string S')
  have hR1 : Ref (w.setCell ⟨X, 0, none⟩ (.string S')) B X S' a n := ⟨h.low, h1.1⟩
  have h2 := hR1.set 1 (.int .i64 a')
  have hR2 : Ref ((w.setCell ⟨X, 0, none⟩ (.string S')).setCell ⟨X, 1, none⟩ (.int .i64 a')) B X S' a' n := ⟨h.low, h2.1⟩
  have h3 := hR2.set 2 (.int .i64 n')
  exact ⟨⟨h.low, h3.1⟩, (h1.2.trans h2.2).trans h3.2⟩
theorem ref_two {w : World} {B X : Nat} {S : ByteArray} {a n : Nat} (h : Ref w B X S a n) (S' : ByteArray) (z : Int) (n' : Nat) (hz : z = n') :
    Ref ((w.setCell ⟨X, 0, none⟩ (.string S')).setCell ⟨X, 2, none⟩ (.int .i64 z)) B X S' a n' ∧ Yours B w ((w.setCell ⟨X, 0, none⟩ (.string S')).setCell ⟨X, 2, none⟩ (.int .i64 z)) := by
  subst hz
  have h1 := h.set 0 (.string S')
  have hR1 : Ref (w.setCell ⟨X, 0, none⟩ (.string S')) B X S' a n := ⟨h.low, h1.1⟩
  have h3 := hR1.set 2 (.int .i64 n')
  exact ⟨⟨h.low, h3.1⟩, h1.2.trans h3.2⟩
def RefPost (w : World) (B X : Nat) (S : ByteArray) (a n : Nat) (e : Ending) (w' : World) : Prop := e = .returned (.int .i64 0) ∧ Ref w' B X S a n ∧ Yours B w w'
/-- Bytes are put in. -/
def insRef (S : ByteArray) (p : Nat) (s : ByteArray) : ByteArray := S.extract 0 p ++ s ++ S.extract p S.size
def delRef (S : ByteArray) (p q : Nat) : ByteArray := S.extract 0 p ++ S.extract q S.size
def rightS (n : Nat) (p q : Int) : Bool := decide (0 ≤ p ∧ p ≤ q ∧ q ≤ n)
set_option maxHeartbeats 400000 in
theorem refright_any {w : World} {B X : Nat} {S : ByteArray} {a n : Nat} (h : Ref w B X S a n) (p q : Int) :
    Calls Try.prog 48 #[.pointer (some ⟨X, 0, none⟩), .int .i64 p, .int .i64 q] w fun e w' => e = .returned (.bool (rightS S.size p q)) ∧ w = w' := by
  obtain ⟨c0, c1, c2, f0, f1, f2⟩ := h.cells
  clear h f0 f1 f2
  by_cases h1 : 0 ≤ p
  · by_cases h2 : p ≤ q
    · by_cases h3 : q ≤ (S.size : Int)
      · have e : rightS S.size p q = true := by unfold rightS; simp; omega
        rw [e]
        go_enter Try.func48, Try.ntmps48
        go_wp2
        go_ret
        exact ⟨rfl, rfl⟩
      · have e : rightS S.size p q = false := by unfold rightS; simp; omega
        rw [e]
        have h3' : decide (q ≤ (S.size : Int)) = false := by simpa using h3
        go_enter Try.func48, Try.ntmps48
        go_wp2
        go_ret
        exact ⟨rfl, rfl⟩
    · have e : rightS S.size p q = false := by unfold rightS; simp; omega
      rw [e]
      go_enter Try.func48, Try.ntmps48
      go_wp2
      go_ret
      exact ⟨rfl, rfl⟩
  · have e : rightS S.size p q = false := by unfold rightS; simp; omega
    rw [e]
    go_enter Try.func48, Try.ntmps48
    go_wp2
    go_ret
    exact ⟨rfl, rfl⟩
set_option maxHeartbeats 400000 in
theorem refslice_out {w : World} {B X : Nat} {S : ByteArray} {a n : Nat} (h : Ref w B X S a n) (p q : Int) (hr : rightS S.size p q = false) :
    Calls Try.prog 28 #[.pointer (some ⟨X, 0, none⟩), .int .i64 p, .int .i64 q] w fun e w' => e = .returned (.string ⟨#[]⟩) ∧ w = w' := by
  have hc := refright_any h p q
  rw [hr] at hc
  have HC := Lib.hid hc
  clear hc h hr
  go_enter Try.func28, Try.ntmps28
  go_wp2_with (go_at_call 48; refine HC.out.mono ?_; rintro e w1 ⟨rfl, rfl⟩)
  go_ret
  exact ⟨rfl, rfl⟩
set_option maxHeartbeats 400000 in
theorem refslice_in {w : World} {B X : Nat} {S : ByteArray} {a n : Nat} (h : Ref w B X S a n) (p q : Nat) (hpq : p ≤ q) (hq : q ≤ S.size) :
    Calls Try.prog 28 #[.pointer (some ⟨X, 0, none⟩), .int .i64 p, .int .i64 q] w fun e w' => e = .returned (.string (S.extract p q)) ∧ w = w' := by
  have hc := refright_any h (p : Int) (q : Int)
  rw [show rightS S.size (p : Int) (q : Int) = true from by unfold rightS; simp; omega] at hc
  obtain ⟨c0, c1, c2, f0, f1, f2⟩ := h.cells
  have HC := Lib.hid hc
  clear hc h f0 f1 f2
  go_enter Try.func28, Try.ntmps28
  go_wp2_with (go_at_call 48; refine HC.out.mono ?_; rintro e w1 ⟨rfl, rfl⟩)
  go_ret
  exact ⟨rfl, rfl⟩
set_option maxHeartbeats 400000 in
theorem refcompact_any {w : World} {B X : Nat} {S : ByteArray} {a n : Nat} (h : Ref w B X S a n) :
    Calls Try.prog 42 #[.pointer (some ⟨X, 0, none⟩)] w fun e w' => e = .returned (.tuple #[]) ∧ Ref w' B X S 0 0 ∧ Yours B w w' := by
  obtain ⟨c0, c1, c2, f0, f1, f2⟩ := h.cells
  have h1 := h.set 1 (.int .i64 0)
  have hR1 : Ref (w.setCell ⟨X, 1, none⟩ (.int .i64 0)) B X S 0 n := ⟨h.low, h1.1⟩
  have h2 := hR1.set 2 (.int .i64 0)
  have H1 := Lib.hid h1
  have H2 := Lib.hid h2
  have HH := Lib.hid h
  clear h h1 h2 hR1
  go_enter Try.func42, Try.ntmps42
  go_wp2
  go_end0
  exact ⟨rfl, ⟨HH.out.low, H2.out.1⟩, H1.out.2.trans H2.out.2⟩
set_option maxHeartbeats 400000 in
theorem refinsert_out {w : World} {B X : Nat} {S : ByteArray} {a n : Nat} (h : Ref w B X S a n) (p : Int) (s : ByteArray) (hp : p < 0 ∨ (S.size : Int) < p) :
    Calls Try.prog 40 #[.pointer (some ⟨X, 0, none⟩), .int .i64 p, .string s] w fun e w' => e = .returned (.int .i64 6) ∧ w = w' := by
  obtain ⟨c0, c1, c2, f0, f1, f2⟩ := h.cells
  clear h f0 f1 f2
  by_cases h0 : p < 0
  · clear hp
    go_enter Try.func40, Try.ntmps40
    go_wp2
    go_ret
    exact ⟨rfl, rfl⟩
  · have h1 : (S.size : Int) < p := by omega
    clear hp
    go_enter Try.func40, Try.ntmps40
    go_wp2
    go_ret
    exact ⟨rfl, rfl⟩
set_option maxHeartbeats 1000000 in
theorem refinsert_in {w : World} {B X : Nat} {S : ByteArray} {a n : Nat} (h : Ref w B X S a n) (p : Nat) (s : ByteArray) (hp : p ≤ S.size) (hS : S.size ≤ 1000000000000000) (hs : s.size ≤ 1000000000000000) (ha : a ≤ 1000000000000000) (hn : n ≤ 1000000000000000) :
    Calls Try.prog 40 #[.pointer (some ⟨X, 0, none⟩), .int .i64 p, .string s] w (RefPost w B X (insRef S p s) (a + s.size) (n + 1)) := by
  obtain ⟨c0, c1, c2, f0, f1, f2⟩ := h.cells
  have HH := Lib.hid h
  clear h
  go_enter Try.func40, Try.ntmps40
  go_wp2_with fail
  go_region
  all_goals go_wp2_with fail
  go_ret
  have hd := ref_three HH.out (insRef S p s) ((a : Int) + (s.size : Int)) ((n : Int) + 1) (a + s.size) (n + 1) (by omega) (by omega)
  exact ⟨rfl, ⟨hd.1.low, hd.1.blk⟩, hd.2.drew⟩
set_option maxHeartbeats 400000 in
theorem refdelete_out {w : World} {B X : Nat} {S : ByteArray} {a n : Nat} (h : Ref w B X S a n) (p q : Int) (hr : rightS S.size p q = false) :
    Calls Try.prog 41 #[.pointer (some ⟨X, 0, none⟩), .int .i64 p, .int .i64 q] w fun e w' => e = .returned (.int .i64 6) ∧ w = w' := by
  have hc := refright_any h p q
  rw [hr] at hc
  have HC := Lib.hid hc
  clear hc h hr
  go_enter Try.func41, Try.ntmps41
  go_wp2_with (go_at_call 48; refine HC.out.mono ?_; rintro e w1 ⟨rfl, rfl⟩)
  go_ret
  exact ⟨rfl, rfl⟩
set_option maxHeartbeats 1000000 in
theorem refdelete_in {w : World} {B X : Nat} {S : ByteArray} {a n : Nat} (h : Ref w B X S a n) (p q : Nat) (hpq : p ≤ q) (hq : q ≤ S.size) (hS : S.size ≤ 1000000000000000) (hn : n ≤ 1000000000000000) :
    Calls Try.prog 41 #[.pointer (some ⟨X, 0, none⟩), .int .i64 p, .int .i64 q] w (RefPost w B X (delRef S p q) a (n + 1)) := by
  have hc := refright_any h (p : Int) (q : Int)
  rw [show rightS S.size (p : Int) (q : Int) = true from by unfold rightS; simp; omega] at hc
  obtain ⟨c0, c1, c2, f0, f1, f2⟩ := h.cells
  have HC := Lib.hid hc
  have HH := Lib.hid h
  clear hc h
  go_enter Try.func41, Try.ntmps41
  go_wp2_with (go_at_call 48; refine HC.out.mono ?_; rintro e w1 ⟨rfl, rfl⟩)
  go_region
  all_goals go_wp2_with fail
  all_goals go_ret
  all_goals have hd := ref_two HH.out (delRef S p q) ((n : Int) + 1) (n + 1) (by omega)
  all_goals exact ⟨rfl, ⟨hd.1.low, hd.1.blk⟩, hd.2.drew⟩
end Go.Proofs.Ytckgmofgcddnaaa
