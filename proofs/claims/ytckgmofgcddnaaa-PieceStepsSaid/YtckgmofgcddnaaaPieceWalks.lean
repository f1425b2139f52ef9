/- What the functions of package piece come to, each once: put, size, Len, right, grow, split. -/
import Derived.Test.YtckgmofgcddnaaaPieceMem
namespace Go.Proofs.Ytckgmofgcddnaaa
open Go.RowKit

def PutPost (w : World) (B : Nat) (l : List Sp) (e : Ending) (w' : World) : Prop := ∃ v, e = .returned v ∧ Row3 w' B v l ∧ Below w.heap.size w w'
set_option maxHeartbeats 1000000 in
theorem put_some {w : World} {B T g n c : Nat} {f : ByteArray} {sv iv : Value} {sz : Int} {l ins : List Sp} (hT : w.heap[T]? = some (.cells #[.string f, sv, .slice (some ⟨g, 0, none⟩) n c, .int .i64 sz] 59 (0, 0)))
    (h : Row3 w B (.slice (some ⟨g, 0, none⟩) n c) l) (hB : B ≤ w.heap.size) (i k : Nat) (hi : i ≤ l.length) (hk : k ≤ l.length) (hx : Cells3 w iv ins) (hb : l.length + ins.length ≤ 1000000) :
    Calls Try.prog 51 #[.pointer (some ⟨T, 0, none⟩), .int .i64 i, .int .i64 k, iv] w (PutPost w B (putL l i k ins)) := by
  obtain ⟨hn, hg1, hg2, hlc, hcm, _, _⟩ := h.at
  obtain ⟨v1, w1, v2, w2, h1, h2, h3, h4, h5, h6⟩ := put_runs h hB i k hi hk hx hb
  have c2 : w.cell? ⟨T, 2, none⟩ = some (.slice (some ⟨g, 0, none⟩) n c) := by rw [Lib.cell_of_heap hT]; rfl
  have hTl : T < w.heap.size := (Array.getElem?_eq_some_iff.1 hT).1
  have d2 : w1.cell? ⟨T, 2, none⟩ = some (.slice (some ⟨g, 0, none⟩) n c) := (h6.cell (p := ⟨T, 2, none⟩) hTl).trans c2
  have hn2 : n ≤ c := by omega
  have hin : i ≤ n := by omega
  have hkn : k ≤ n := by omega
  have hc63 : c ≤ 9223372036854775807 := hcm
  have H1 := Lib.hid h1
  clear h h1 hn hT
  by_cases hck : c = k
  · subst hck
    have h2' : (Builtin.append_ #[57, 57] 57 #[v1, .slice (some ⟨g, 0, none⟩) 0 0]).run Try.prog w1 = .ok v2 w2 := by
      have e : cutTail (.slice (some ⟨g, 0, none⟩) n c) c = .slice (some ⟨g, 0, none⟩) 0 0 := by simp [cutTail]; omega
      rw [e] at h2
      exact h2
    have H2 := Lib.hid h2'
    clear h2 h2'
    go_enter Try.func51, Try.ntmps51
    go_wp2_with (first | (at_builtin; refine wpList_append_runs rfl (.tmp 16) (.tmp 17) 57 57 rfl _ _ v1 w1 rfl rfl H1.out ?_) | (at_builtin; refine wpList_append_runs rfl (.tmp 19) (.tmp 25) 57 57 rfl _ _ v2 w2 rfl rfl H2.out ?_))
    go_ret
    exact ⟨_, rfl, h3, h4⟩
  · have h2' : (Builtin.append_ #[57, 57] 57 #[v1, .slice (some ⟨g, k * 3, none⟩) (n - k) (c - k)]).run Try.prog w1 = .ok v2 w2 := by
      have e : cutTail (.slice (some ⟨g, 0, none⟩) n c) k = .slice (some ⟨g, k * 3, none⟩) (n - k) (c - k) := by
        show Value.slice (if c = k then some ⟨g, 0, none⟩ else (some (⟨g, 0, none⟩ : Addr)).map (·.add (k * 3))) (n - k) (c - k) = _
        rw [if_neg hck]
        show Value.slice (some ((⟨g, 0, none⟩ : Addr).add (k * 3))) (n - k) (c - k) = _
        rw [add_plain0]
      rw [e] at h2
      exact h2
    have H2 := Lib.hid h2'
    clear h2 h2'
    go_enter Try.func51, Try.ntmps51
    go_wp2_with (first | (at_builtin; refine wpList_append_runs rfl (.tmp 16) (.tmp 17) 57 57 rfl _ _ v1 w1 rfl rfl H1.out ?_) | (at_builtin; refine wpList_append_runs rfl (.tmp 19) (.tmp 25) 57 57 rfl _ _ v2 w2 rfl rfl H2.out ?_))
    go_ret
    exact ⟨_, rfl, h3, h4⟩
set_option maxHeartbeats 1000000 in
theorem put_nil {w : World} {B T : Nat} {f : ByteArray} {sv iv : Value} {sz : Int} {ins : List Sp} (hT : w.heap[T]? = some (.cells #[.string f, sv, .slice none 0 0, .int .i64 sz] 59 (0, 0)))
    (hB : B ≤ w.heap.size) (hx : Cells3 w iv ins) (hb : ins.length ≤ 1000000) :
    Calls Try.prog 51 #[.pointer (some ⟨T, 0, none⟩), .int .i64 0, .int .i64 0, iv] w (PutPost w B (putL [] 0 0 ins)) := by
  obtain ⟨v1, w1, v2, w2, h1, h2, h3, h4, h5, h6⟩ := put_runs (l := []) (lv := .slice none 0 0) (Or.inl ⟨rfl, rfl⟩) hB 0 0 (Nat.le_refl _) (Nat.le_refl _) hx (by simpa using hb)
  have c2 : w.cell? ⟨T, 2, none⟩ = some (.slice none 0 0) := by rw [Lib.cell_of_heap hT]; rfl
  have hTl : T < w.heap.size := (Array.getElem?_eq_some_iff.1 hT).1
  have d2 : w1.cell? ⟨T, 2, none⟩ = some (.slice none 0 0) := (h6.cell (p := ⟨T, 2, none⟩) hTl).trans c2
  have H1 := Lib.hid h1
  have H2 := Lib.hid h2
  clear h1 h2 hT
  go_enter Try.func51, Try.ntmps51
  go_wp2_with (first | (at_builtin; refine wpList_append_runs rfl (.tmp 16) (.tmp 17) 57 57 rfl _ _ v1 w1 rfl rfl H1.out ?_) | (at_builtin; refine wpList_append_runs rfl (.tmp 19) (.tmp 25) 57 57 rfl _ _ v2 w2 rfl rfl H2.out ?_))
  go_ret
  exact ⟨_, rfl, h3, h4⟩
theorem put_any {w : World} {B T : Nat} {f : ByteArray} {sv lv iv : Value} {sz : Int} {l ins : List Sp} (hT : w.heap[T]? = some (.cells #[.string f, sv, lv, .int .i64 sz] 59 (0, 0)))
    (h : Row3 w B lv l) (hB : B ≤ w.heap.size) (i k : Nat) (hi : i ≤ l.length) (hk : k ≤ l.length) (hx : Cells3 w iv ins) (hb : l.length + ins.length ≤ 1000000) :
    Calls Try.prog 51 #[.pointer (some ⟨T, 0, none⟩), .int .i64 i, .int .i64 k, iv] w (PutPost w B (putL l i k ins)) := by
  rcases h with ⟨rfl, rfl⟩ | ⟨g, cap, cur, rfl, hr⟩
  · have hi0 : i = 0 := by simpa using hi
    have hk0 : k = 0 := by simpa using hk
    subst hi0; subst hk0
    exact put_nil hT hB hx (by simpa using hb)
  · exact put_some hT (Or.inr ⟨g, cap, cur, rfl, hr⟩) hB i k hi hk hx hb

/-- A piece table in memory, its two slices named. -/
structure TabV (w : World) (B T : Nat) (f : ByteArray) (d : List UInt8) (l : List Sp) (sv lv : Value) : Prop where
  low : B ≤ T
  blk : w.heap[T]? = some (.cells #[.string f, sv, lv, .int .i64 (total l : Nat)] 59 (0, 0))
  sec : w.ownsRow B 5 1 sv d.length (Lib.byteCells d)
  row : Row3 w B lv l
  ok : okAll f.data.toList d l
/-- A piece table in memory: of these bytes first, those put in since, and these pieces. -/
def Tab (w : World) (B T : Nat) (f : ByteArray) (d : List UInt8) (l : List Sp) : Prop := ∃ sv lv, TabV w B T f d l sv lv
/-- A type of which no cell of a table is: neither the table's, nor a piece's, nor a byte's. -/
def Alien (ty : TypeId) : Prop := ty ≠ 59 ∧ ty ≠ 5 ∧ ty ≠ 67
/-- What lies below B is as it was, and so is what is no table's. -/
def Mine (B : Nat) (w w' : World) : Prop := Below B w w' ∧ ∀ (k : Nat) (cs : Array Value) (ty : TypeId) (fr : Nat × Nat), Alien ty → w.heap[k]? = some (.cells cs ty fr) → w'.heap[k]? = some (.cells cs ty fr)
theorem ty_eq {w : World} {k : Nat} {cs cs' : Array Value} {ty ty' : TypeId} {fr fr' : Nat × Nat} (h : w.heap[k]? = some (.cells cs ty fr)) (h' : w.heap[k]? = some (.cells cs' ty' fr')) : ty = ty' := by
  rw [h] at h'
  simp only [Option.some.injEq, Obj.cells.injEq] at h'
  exact h'.2.1
theorem Mine.refl (B : Nat) (w : World) : Mine B w w := ⟨Below.refl _ _, fun _ _ _ _ _ h => h⟩
theorem Mine.trans {B : Nat} {a b c : World} (h : Mine B a b) (k : Mine B b c) : Mine B a c := ⟨h.1.trans k.1, fun i cs ty fr ho hi => k.2 i cs ty fr ho (h.2 i cs ty fr ho hi)⟩
theorem Mine.below {B : Nat} {w w' : World} (h : Below w.heap.size w w') (hB : B ≤ w.heap.size) : Mine B w w' :=
  ⟨h.mono hB, fun k cs ty fr _ hk => by rw [h.block k (Array.getElem?_eq_some_iff.1 hk).1]; exact hk⟩
theorem TabV.lt {w : World} {B T : Nat} {f : ByteArray} {d : List UInt8} {l : List Sp} {sv lv : Value} (h : TabV w B T f d l sv lv) : T < w.heap.size := (Array.getElem?_eq_some_iff.1 h.blk).1
theorem TabV.le {w : World} {B T : Nat} {f : ByteArray} {d : List UInt8} {l : List Sp} {sv lv : Value} (h : TabV w B T f d l sv lv) : B ≤ w.heap.size := by have := h.lt; have := h.low; omega
theorem owns_below {w w' : World} {B : Nat} {e : TypeId} {size : Nat} {v : Value} {n : Nat} {xs : List Value} (h : w.ownsRow B e size v n xs) (hb : Below w.heap.size w w') : w'.ownsRow B e size v n xs :=
  h.kept (row := none) ⟨hb.os, hb.tape, hb.output, hb.size, fun k hk _ => hb.block k hk⟩ (by cases v.ownBlock <;> simp)
theorem TabV.below {w w' : World} {B T : Nat} {f : ByteArray} {d : List UInt8} {l : List Sp} {sv lv : Value} (h : TabV w B T f d l sv lv) (hb : Below w.heap.size w w') : TabV w' B T f d l sv lv :=
  ⟨h.low, by rw [hb.block T h.lt]; exact h.blk, owns_below h.sec hb, h.row.below hb, h.ok⟩
theorem Tab.below {w w' : World} {B T : Nat} {f : ByteArray} {d : List UInt8} {l : List Sp} (h : Tab w B T f d l) (hb : Below w.heap.size w w') : Tab w' B T f d l := by
  obtain ⟨sv, lv, h⟩ := h
  exact ⟨sv, lv, h.below hb⟩
theorem TabV.cells {w : World} {B T : Nat} {f : ByteArray} {d : List UInt8} {l : List Sp} {sv lv : Value} (h : TabV w B T f d l sv lv) :
    w.cell? ⟨T, 0, none⟩ = some (.string f) ∧ w.cell? ⟨T, 1, none⟩ = some sv ∧ w.cell? ⟨T, 2, none⟩ = some lv ∧ w.cell? ⟨T, 3, none⟩ = some (.int .i64 (total l : Nat)) ∧ ∀ j, w.frozen? ⟨T, j, none⟩ = false :=
  ⟨by rw [Lib.cell_of_heap h.blk]; rfl, by rw [Lib.cell_of_heap h.blk]; rfl, by rw [Lib.cell_of_heap h.blk]; rfl, by rw [Lib.cell_of_heap h.blk]; rfl, fun j => Lib.frozen_of_heap h.blk j⟩
/-- Another list of pieces goes into the table. -/
theorem TabV.setList {w : World} {B T : Nat} {f : ByteArray} {d : List UInt8} {l l' : List Sp} {sv lv lv' : Value} (h : TabV w B T f d l sv lv) (hr : Row3 w B lv' l') (ho : okAll f.data.toList d l') (ht : total l' = total l) :
    TabV (w.setCell ⟨T, 2, none⟩ lv') B T f d l' sv lv' := by
  have hblk := h.blk
  have hne : ∀ k, k ≠ T → (w.setCell ⟨T, 2, none⟩ lv').heap[k]? = w.heap[k]? := fun k hk => heap_setCell_other w ⟨T, 2, none⟩ k lv' hk
  refine ⟨h.low, ?_, ?_, ?_, ho⟩
  · rw [heap_setCell_same w T 2 _ 59 lv' hblk, ht]; rfl
  · refine h.sec.kept (row := some T) ⟨rfl, rfl, rfl, by simp [World.setCell], fun k _ hk => hne k (fun e => hk (by simp [e]))⟩ (Or.inr (Lib.ownBlock_ne h.sec hblk (by decide)))
  · refine hr.keep fun k cs hk _ => ?_
    rw [hne k (fun e => by subst e; rw [hblk] at hk; simp at hk)]
    exact hk
theorem setCell_mine {w : World} {B T : Nat} {cs : Array Value} (hB : B ≤ T) (h : w.heap[T]? = some (.cells cs 59 (0, 0))) (j : Nat) (v : Value) : Mine B w (w.setCell ⟨T, j, none⟩ v) := by
  refine ⟨(Below.refl _ _).setCell hB _, fun k cs' ty fr ho hk => ?_⟩
  rw [heap_setCell_other w ⟨T, j, none⟩ k v (fun e => by have e' : k = T := e; subst e'; exact ho.1 (ty_eq hk h))]
  exact hk

set_option maxHeartbeats 400000 in
theorem size_any (s : Sp) (w : World) (h : s.lo ≤ s.hi) (h2 : s.hi ≤ 1000000000000000) :
    Calls Try.prog 44 #[.agg #[.bool s.add, .int .i64 s.lo, .int .i64 s.hi]] w fun e w' => e = .returned (.int .i64 (s.len : Nat)) ∧ Below w.heap.size w w' := by
  have hl : (s.len : Int) = (s.hi : Int) - (s.lo : Int) := by unfold Sp.len; omega
  rw [hl]
  go_enter Try.func44, Try.ntmps44
  go_wp2
  go_ret
  exact ⟨rfl, (Below.refl _ _).alloc (Nat.le_refl _) _⟩
set_option maxHeartbeats 400000 in
theorem len_any {w : World} {B T : Nat} {f : ByteArray} {d : List UInt8} {l : List Sp} (h : Tab w B T f d l) :
    Calls Try.prog 31 #[.pointer (some ⟨T, 0, none⟩)] w fun e w' => e = .returned (.int .i64 (total l : Nat)) ∧ w = w' := by
  obtain ⟨sv, lv, h⟩ := h
  obtain ⟨c0, c1, c2, c3, cf⟩ := h.cells
  clear h cf
  go_enter Try.func31, Try.ntmps31
  go_wp2
  go_ret
  exact ⟨rfl, rfl⟩
set_option maxHeartbeats 400000 in
theorem pieces_any {w : World} {B T : Nat} {f : ByteArray} {d : List UInt8} {l : List Sp} (h : Tab w B T f d l) :
    Calls Try.prog 29 #[.pointer (some ⟨T, 0, none⟩)] w fun e w' => e = .returned (.int .i64 (l.length : Nat)) ∧ w = w' := by
  obtain ⟨sv, lv, h⟩ := h
  obtain ⟨c0, c1, c2, c3, cf⟩ := h.cells
  obtain ⟨a, c, rfl, _⟩ := h.row.shape
  clear h cf
  go_enter Try.func29, Try.ntmps29
  go_wp2
  go_ret
  exact ⟨rfl, rfl⟩
theorem owns_shape {w : World} {B : Nat} {e : TypeId} {size : Nat} {v : Value} {n : Nat} {xs : List Value} (h : w.ownsRow B e size v n xs) : ∃ a c, v = .slice a n c ∧ n ≤ c := by
  rcases h.2 with ⟨hv, hn⟩ | ⟨g, cap, cur, hv, _, _, hn, _⟩
  · exact ⟨none, 0, by rw [hv, hn], by omega⟩
  · exact ⟨_, _, hv, hn⟩
set_option maxHeartbeats 400000 in
theorem added_any {w : World} {B T : Nat} {f : ByteArray} {d : List UInt8} {l : List Sp} (h : Tab w B T f d l) :
    Calls Try.prog 32 #[.pointer (some ⟨T, 0, none⟩)] w fun e w' => e = .returned (.int .i64 (d.length : Nat)) ∧ w = w' := by
  obtain ⟨sv, lv, h⟩ := h
  obtain ⟨c0, c1, c2, c3, cf⟩ := h.cells
  obtain ⟨a, c, rfl, _⟩ := owns_shape h.sec
  clear h cf
  go_enter Try.func32, Try.ntmps32
  go_wp2
  go_ret
  exact ⟨rfl, rfl⟩
/-- Are there such bytes? -/
def rightB (n : Nat) (p q : Int) : Bool := decide (0 ≤ p ∧ p ≤ q ∧ q ≤ n)
set_option maxHeartbeats 400000 in
theorem right_any {w : World} {B T : Nat} {f : ByteArray} {d : List UInt8} {l : List Sp} (h : Tab w B T f d l) (p q : Int) :
    Calls Try.prog 43 #[.pointer (some ⟨T, 0, none⟩), .int .i64 p, .int .i64 q] w fun e w' => e = .returned (.bool (rightB (total l) p q)) ∧ w = w' := by
  obtain ⟨sv, lv, h⟩ := h
  obtain ⟨c0, c1, c2, c3, cf⟩ := h.cells
  clear h cf
  by_cases h1 : 0 ≤ p
  · by_cases h2 : p ≤ q
    · by_cases h3 : q ≤ (total l : Nat)
      · have e : rightB (total l) p q = true := by unfold rightB; simp; omega
        rw [e]
        go_enter Try.func43, Try.ntmps43
        go_wp2
        go_ret
        exact ⟨rfl, rfl⟩
      · have e : rightB (total l) p q = false := by unfold rightB; simp; omega
        rw [e]
        have h3' : decide (q ≤ ((total l : Nat) : Int)) = false := by simpa using h3
        go_enter Try.func43, Try.ntmps43
        go_wp2
        go_ret
        exact ⟨rfl, rfl⟩
    · have e : rightB (total l) p q = false := by unfold rightB; simp; omega
      rw [e]
      go_enter Try.func43, Try.ntmps43
      go_wp2
      go_ret
      exact ⟨rfl, rfl⟩
  · have e : rightB (total l) p q = false := by unfold rightB; simp; omega
    rw [e]
    go_enter Try.func43, Try.ntmps43
    go_wp2
    go_ret
    exact ⟨rfl, rfl⟩
end Go.Proofs.Ytckgmofgcddnaaa
