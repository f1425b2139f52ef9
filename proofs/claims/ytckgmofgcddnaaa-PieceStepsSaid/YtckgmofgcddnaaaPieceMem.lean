/- A piece table in memory: its pieces as cells, what keeps them, and what an append to them comes to. -/
import Derived.Test.YtckgmofgcddnaaaBuild
import Derived.Test.YtckgmofgcddnaaaPieceMath
import Derived.Deep.Upon
namespace Go.Proofs.Ytckgmofgcddnaaa
open Go.RowKit

theorem info67 : (Try.prog.info? 67).map (fun i => (i.zero, i.size, i.bytes)) = some (some (.agg #[.bool false, .int .i64 0, .int .i64 0]), 3, 24) := by kernel_rfl
def Sp.cells (s : Sp) : List Value := [.bool s.add, .int .i64 s.lo, .int .i64 s.hi]
def spCells (l : List Sp) : List Value := (l.map Sp.cells).flatten
theorem spCells_nil : spCells [] = [] := rfl
theorem spCells_cons (s : Sp) (l : List Sp) : spCells (s :: l) = s.cells ++ spCells l := by simp [spCells]
theorem spCells_append (a b : List Sp) : spCells (a ++ b) = spCells a ++ spCells b := by simp [spCells]
theorem spCells_length (l : List Sp) : (spCells l).length = l.length * 3 := by
  induction l with
  | nil => rfl
  | cons s l ih => rw [spCells_cons, List.length_append, ih, List.length_cons]; simp [Sp.cells]; omega
theorem spCells_take (l : List Sp) (k : Nat) (h : k ≤ l.length) : (spCells l).take (k * 3) = spCells (l.take k) := by
  have e : spCells l = spCells (l.take k) ++ spCells (l.drop k) := by rw [← spCells_append, List.take_append_drop]
  rw [e, List.take_append_of_le_length (by rw [spCells_length, List.length_take]; omega), List.take_of_length_le (by rw [spCells_length, List.length_take]; omega)]
theorem spCells_drop (l : List Sp) (k : Nat) (h : k ≤ l.length) : (spCells l).drop (k * 3) = spCells (l.drop k) := by
  have e : spCells l = spCells (l.take k) ++ spCells (l.drop k) := by rw [← spCells_append, List.take_append_drop]
  rw [e, List.drop_append_of_le_length (by rw [spCells_length, List.length_take]; omega), List.drop_of_length_le (by rw [spCells_length, List.length_take]; omega), List.nil_append]
theorem spCells_get (l : List Sp) (k : Nat) (h : k < l.length) : (spCells l)[k * 3]? = some (.bool l[k].add) ∧ (spCells l)[k * 3 + 1]? = some (.int .i64 l[k].lo) ∧ (spCells l)[k * 3 + 2]? = some (.int .i64 l[k].hi) := by
  have e : l = l.take k ++ (l[k] :: l.drop (k + 1)) := by rw [← List.drop_eq_getElem_cons h, List.take_append_drop]
  have hl : (spCells (l.take k)).length = k * 3 := by rw [spCells_length, List.length_take]; omega
  have e2 : spCells l = spCells (l.take k) ++ (l[k].cells ++ spCells (l.drop (k + 1))) := by rw [← spCells_cons, ← spCells_append, ← e]
  rw [e2]
  refine ⟨?_, ?_, ?_⟩
  · rw [List.getElem?_append_right (by omega), hl, Nat.sub_self]; rfl
  · rw [List.getElem?_append_right (by omega), hl, Nat.add_sub_cancel_left]; rfl
  · rw [List.getElem?_append_right (by omega), hl, Nat.add_sub_cancel_left]; rfl
theorem spCells_one (l : List Sp) : ∀ u ∈ spCells l, u.oneCell' = true := by
  intro u hu
  simp only [spCells, List.mem_flatten, List.mem_map] at hu
  obtain ⟨_, ⟨s, _, rfl⟩, h⟩ := hu
  simp only [Sp.cells, List.mem_cons, List.not_mem_nil, or_false] at h
  rcases h with rfl | rfl | rfl <;> rfl
theorem spCells_set (l : List Sp) (k m : Nat) (h : k < l.length) : (spCells l).set (k * 3 + 2) (.int .i64 ((l[k].hi + m : Nat) : Int)) = spCells (l.modify k (fun s => ⟨s.add, s.lo, s.hi + m⟩)) := by
  have e : l = l.take k ++ (l[k] :: l.drop (k + 1)) := by rw [← List.drop_eq_getElem_cons h, List.take_append_drop]
  have hl : (spCells (l.take k)).length = k * 3 := by rw [spCells_length, List.length_take]; omega
  have e2 : spCells l = spCells (l.take k) ++ (l[k].cells ++ spCells (l.drop (k + 1))) := by rw [← spCells_cons, ← spCells_append, ← e]
  have em : l.modify k (fun s => (⟨s.add, s.lo, s.hi + m⟩ : Sp)) = l.take k ++ (⟨l[k].add, l[k].lo, l[k].hi + m⟩ :: l.drop (k + 1)) := by
    rw [List.modify_eq_take_cons_drop h]
  rw [em, spCells_append, spCells_cons, e2, List.set_append_right _ _ (by omega), hl, Nat.add_sub_cancel_left]
  rfl

/-- A slice value over a row of pieces that may be written. -/
def Row3 (w : World) (B : Nat) (v : Value) (l : List Sp) : Prop :=
  (v = .slice none 0 0 ∧ l = []) ∨ ∃ g cap cur, v = .slice (some ⟨g, 0, none⟩) l.length cap ∧ B ≤ g ∧ w.heap[g]? = some (.cells cur 67 (0, 0)) ∧ l.length ≤ cap ∧ cap ≤ maxLen ∧ cap * 3 ≤ cur.size ∧ cur.toList.take (l.length * 3) = spCells l
/-- A slice value of which these pieces can be read. -/
def Cells3 (w : World) (v : Value) (l : List Sp) : Prop :=
  (v = .slice none 0 0 ∧ l = []) ∨ ∃ a c, v = .slice (some a) l.length c ∧ ∀ j u, (spCells l)[j]? = some u → w.cell? (a.add j) = some u

theorem row3_of_owns {w : World} {B base : Nat} {v : Value} {l : List Sp} (h : w.ownsRow base 67 3 v l.length (spCells l)) (hB : B ≤ base) : Row3 w B v l := by
  rcases h.2 with ⟨hv, hn⟩ | ⟨g, cap, cur, hv, hg, hh, hn, hm, hs, ht⟩
  · exact Or.inl ⟨hv, List.length_eq_zero_iff.1 hn⟩
  · exact Or.inr ⟨g, cap, cur, hv, by omega, hh, hn, hm, by omega, ht⟩
theorem Row3.keep {w w' : World} {B : Nat} {v : Value} {l : List Sp} (h : Row3 w B v l) (hk : ∀ (k : Nat) (cs : Array Value), w.heap[k]? = some (.cells cs 67 (0, 0)) → v.ownBlock = some k → w'.heap[k]? = some (.cells cs 67 (0, 0))) : Row3 w' B v l := by
  rcases h with h | ⟨g, cap, cur, hv, hg, hh, hr⟩
  · exact Or.inl h
  · exact Or.inr ⟨g, cap, cur, hv, hg, hk g cur hh (by rw [hv]; rfl), hr⟩
theorem Row3.below {w w' : World} {B : Nat} {v : Value} {l : List Sp} (h : Row3 w B v l) (hb : Below w.heap.size w w') : Row3 w' B v l :=
  h.keep fun k cs hk _ => by rw [hb.block k (Array.getElem?_eq_some_iff.1 hk).1]; exact hk
theorem Row3.shape {w : World} {B : Nat} {v : Value} {l : List Sp} (h : Row3 w B v l) : ∃ a c, v = .slice a l.length c ∧ l.length ≤ c := by
  rcases h with ⟨hv, hl⟩ | ⟨g, cap, cur, hv, _, _, hn, _⟩
  · exact ⟨none, 0, by rw [hv, hl]; rfl, by rw [hl]; exact Nat.le_refl _⟩
  · exact ⟨_, _, hv, hn⟩
/-- The cells of a row. -/
theorem Row3.at {w : World} {B g n c : Nat} {l : List Sp} (h : Row3 w B (.slice (some ⟨g, 0, none⟩) n c) l) : n = l.length ∧ B ≤ g ∧ g < w.heap.size ∧ l.length ≤ c ∧ c ≤ maxLen ∧ (∃ cur, w.heap[g]? = some (.cells cur 67 (0, 0))) ∧
    ∀ j, j < l.length * 3 → w.cell? ⟨g, j, none⟩ = (spCells l)[j]? ∧ w.frozen? ⟨g, j, none⟩ = false := by
  rcases h with ⟨hv, _⟩ | ⟨g', cap, cur, hv, hg, hh, hn, hm, hs, ht⟩
  · simp at hv
  · simp only [Value.slice.injEq, Option.some.injEq, Addr.mk.injEq, and_true] at hv
    obtain ⟨rfl, rfl, rfl⟩ := hv
    refine ⟨rfl, hg, (Array.getElem?_eq_some_iff.1 hh).1, hn, hm, ⟨cur, hh⟩, fun j hj => ⟨?_, frozen_of_row w g j cur 67 hh⟩⟩
    rw [cell_of_row w g j cur 67 (0, 0) hh, ← ht, List.getElem?_take, if_pos hj]
    simp
theorem Row3.piece {w : World} {B g n c : Nat} {l : List Sp} (h : Row3 w B (.slice (some ⟨g, 0, none⟩) n c) l) (k : Nat) (hk : k < l.length) :
    w.cell? ⟨g, k * 3, none⟩ = some (.bool l[k].add) ∧ w.cell? ⟨g, k * 3 + 1, none⟩ = some (.int .i64 l[k].lo) ∧ w.cell? ⟨g, k * 3 + 2, none⟩ = some (.int .i64 l[k].hi) ∧ w.frozen? ⟨g, k * 3 + 2, none⟩ = false := by
  have ha := h.at.2.2.2.2.2.2
  have hs := spCells_get l k hk
  exact ⟨(ha (k * 3) (by omega)).1.trans hs.1, (ha (k * 3 + 1) (by omega)).1.trans hs.2.1, (ha (k * 3 + 2) (by omega)).1.trans hs.2.2, (ha (k * 3 + 2) (by omega)).2⟩

/-! ### append -/
theorem src3 {w : World} {v : Value} {l : List Sp} {size : Nat} (h : Cells3 w v l) (hsz : size = 3) : Src Try.prog size 57 v l.length (spCells l) w := by
  subst hsz
  rcases h with ⟨rfl, rfl⟩ | ⟨a, c, rfl, hc⟩
  · exact Src.ofNil w Try.underlying57 0
  · exact Src.ofSlice w Try.underlying57 a l.length c (spCells l) (spCells_length l) hc (spCells_one l)
theorem app_nothing {w : World} {xv : Value} (hx : Cells3 w xv []) (a : Option Addr) (n c : Nat) (hle : n ≤ c) (ty : TypeId) :
    (Builtin.append_ #[57, 57] ty #[.slice a n c, xv]).run Try.prog w = .ok (.slice a n c) w := by
  obtain ⟨i0, hi, hz0, hz1, hz2⟩ := info_parts info67
  exact run_append_nothing w 57 57 ty 67 i0 Try.underlying57 hi a n c hle xv (src3 hx hz1)
theorem app_full {w : World} {a : Addr} {olds news : List Sp} {xv : Value} (ho : ∀ j u, (spCells olds)[j]? = some u → w.cell? (a.add j) = some u) (hx : Cells3 w xv news) (hne : news ≠ []) (hb : olds.length + news.length ≤ 2000000) (ty : TypeId) :
    ∃ v' w', (Builtin.append_ #[57, 57] ty #[.slice (some a) olds.length olds.length, xv]).run Try.prog w = .ok v' w' ∧ w'.ownsRow w.heap.size 67 3 v' (olds ++ news).length (spCells (olds ++ news)) ∧ w.grownBy w' none := by
  obtain ⟨i0, hi, hz0, hz1, hz2⟩ := info_parts info67
  have hpos : 0 < news.length := List.length_pos_iff.2 hne
  rcases hx with ⟨_, rfl⟩ | ⟨b, c, rfl, hc⟩
  · exact absurd rfl hne
  · rw [List.length_append, spCells_append]
    exact run_append_arg_grows (P := Try.prog) w 57 ty 67 i0 _ 3 24 Try.underlying57 hi hz0 hz1 hz2 rfl (by decide) a olds.length olds.length (spCells olds) (spCells_length _) ho b news.length c (spCells news) (spCells_length _) hc (by omega) (by unfold maxLen; omega) (by omega)
theorem app_own {w : World} {base : Nat} {v xv : Value} {olds news : List Sp} (ho : w.ownsRow base 67 3 v olds.length (spCells olds)) (hx : Cells3 w xv news) (hne : news ≠ []) (hb : olds.length + news.length ≤ 2000000) (hbase : base ≤ w.heap.size) (ty : TypeId) :
    ∃ v' w', (Builtin.append_ #[57, 57] ty #[v, xv]).run Try.prog w = .ok v' w' ∧ w'.ownsRow base 67 3 v' (olds ++ news).length (spCells (olds ++ news)) ∧ w.grownBy w' v.ownBlock := by
  obtain ⟨i0, hi, hz0, hz1, hz2⟩ := info_parts info67
  rcases hx with ⟨_, rfl⟩ | ⟨b, c, rfl, hc⟩
  · exact absurd rfl hne
  · rw [List.length_append, spCells_append]
    obtain ⟨v', w', h1, h2, h3, _⟩ := run_append_own (P := Try.prog) w base 57 ty 67 i0 _ 3 24 Try.underlying57 hi hz0 hz1 hz2 rfl (by decide) v olds.length (spCells olds) ho b news.length c (spCells news) (spCells_length _) hc (spCells_one _) (by unfold maxLen; omega) (by omega) hbase
    exact ⟨v', w', h1, h2, h3⟩
theorem Cells3.below {w w' : World} {v : Value} {l : List Sp} (h : Cells3 w v l) (hb : Below w.heap.size w w') : Cells3 w' v l := by
  rcases h with h | ⟨a, c, hv, hc⟩
  · exact Or.inl h
  · refine Or.inr ⟨a, c, hv, fun j u hj => ?_⟩
    have h1 := hc j u hj
    rw [hb.cell (block_lt_of_cell h1)]
    exact h1
theorem below_of_grown {w w' : World} (h : w.grownBy w' none) : Below w.heap.size w w' := ⟨h.os, h.tape, h.output, h.size, fun k hk => h.block k hk (by simp)⟩
/-- A slice expression's value: the first pieces, and no room behind. -/
def cutHead (v : Value) (i : Nat) : Value := match v with
  | .slice a _ _ => .slice a i i
  | x => x
/-- A slice expression's value: the pieces from one on. -/
def cutTail (v : Value) (k : Nat) : Value := match v with
  | .slice a n c => .slice (if c = k then a else a.map (·.add (k * 3))) (n - k) (c - k)
  | x => x
theorem add_plain0 (g j : Nat) : (⟨g, 0, none⟩ : Addr).add j = ⟨g, j, none⟩ := by unfold Addr.add; split <;> simp_all
theorem add_add (g a j : Nat) : (⟨g, a, none⟩ : Addr).add j = ⟨g, a + j, none⟩ := by unfold Addr.add; split <;> simp_all
theorem tail3 {w : World} {B : Nat} {v : Value} {l : List Sp} (h : Row3 w B v l) (k : Nat) (hk : k ≤ l.length) : Cells3 w (cutTail v k) (l.drop k) := by
  rcases h with ⟨rfl, rfl⟩ | ⟨g, cap, cur, rfl, hr⟩
  · have : k = 0 := by simpa using hk
    subst this
    exact Or.inl ⟨rfl, rfl⟩
  · have h2 := (show Row3 w B (.slice (some ⟨g, 0, none⟩) l.length cap) l from Or.inr ⟨g, cap, cur, rfl, hr⟩).at
    show Cells3 w (.slice (if cap = k then some ⟨g, 0, none⟩ else (some (⟨g, 0, none⟩ : Addr)).map (·.add (k * 3))) (l.length - k) (cap - k)) (l.drop k)
    by_cases hc : cap = k
    · rw [if_pos hc]
      have e : l.drop k = [] := List.drop_of_length_le (by have := h2.2.2.2.1; omega)
      have hz : l.length - k = 0 := by have := h2.2.2.2.1; omega
      refine Or.inr ⟨⟨g, 0, none⟩, cap - k, by rw [e, hz]; rfl, ?_⟩
      rw [e]
      intro j u hj
      simp [spCells_nil] at hj
    · rw [if_neg hc]
      refine Or.inr ⟨_, cap - k, by rw [List.length_drop]; rfl, fun j u hj => ?_⟩
      show w.cell? (((⟨g, 0, none⟩ : Addr).add (k * 3)).add j) = some u
      rw [add_plain0, add_add]
      have hj2 : j < (spCells (l.drop k)).length := (List.getElem?_eq_some_iff.1 hj).1
      rw [spCells_length, List.length_drop] at hj2
      rw [(h2.2.2.2.2.2.2 (k * 3 + j) (by omega)).1, ← hj, ← spCells_drop l k hk, List.getElem?_drop]
/-- The pieces, with others in the place of some. -/
def putL (l : List Sp) (i k : Nat) (ins : List Sp) : List Sp := l.take i ++ ins ++ l.drop k
/-- WHAT put COMES TO: two appends. -/
theorem put_runs {w : World} {B : Nat} {lv iv : Value} {l ins : List Sp} (h : Row3 w B lv l) (hB : B ≤ w.heap.size) (i k : Nat) (hi : i ≤ l.length) (hk : k ≤ l.length) (hx : Cells3 w iv ins) (hb : l.length + ins.length ≤ 1000000) :
    ∃ v1 w1 v2 w2, (Builtin.append_ #[57, 57] 57 #[cutHead lv i, iv]).run Try.prog w = .ok v1 w1 ∧ (Builtin.append_ #[57, 57] 57 #[v1, cutTail lv k]).run Try.prog w1 = .ok v2 w2 ∧
      Row3 w2 B v2 (putL l i k ins) ∧ Below w.heap.size w w2 ∧ w1.heap.size ≤ w2.heap.size ∧ Below w.heap.size w w1 := by
  unfold putL
  have ht := tail3 h k hk
  have htl : (l.take i).length = i := by rw [List.length_take]; omega
  have hdl : (l.drop k).length = l.length - k := List.length_drop
  -- the head's cells
  have hhead : (lv = .slice none 0 0 ∧ l = []) ∨ ∃ g cap, lv = .slice (some ⟨g, 0, none⟩) l.length cap ∧ i ≤ cap ∧ ∀ j u, (spCells (l.take i))[j]? = some u → w.cell? ((⟨g, 0, none⟩ : Addr).add j) = some u := by
    rcases h with h | ⟨g, cap, cur, hv, hr⟩
    · exact Or.inl h
    · have h2 := (show Row3 w B (.slice (some ⟨g, 0, none⟩) l.length cap) l from Or.inr ⟨g, cap, cur, rfl, hr⟩).at
      refine Or.inr ⟨g, cap, hv, by omega, fun j u hj => ?_⟩
      have hj2 : j < (spCells (l.take i)).length := (List.getElem?_eq_some_iff.1 hj).1
      rw [spCells_length, htl] at hj2
      rw [add_plain0, (h2.2.2.2.2.2.2 j (by omega)).1, ← hj, ← spCells_take l i hi, List.getElem?_take, if_pos hj2]
  by_cases hins : ins = []
  · subst hins
    rw [List.append_nil]
    -- nothing is put in: the head alone
    have h1 : (Builtin.append_ #[57, 57] 57 #[cutHead lv i, iv]).run Try.prog w = .ok (cutHead lv i) w := by
      rcases hhead with ⟨rfl, rfl⟩ | ⟨g, cap, rfl, _, _⟩
      · have : i = 0 := by simpa using hi
        subst this
        exact app_nothing hx none 0 0 (Nat.le_refl _) 57
      · exact app_nothing hx (some ⟨g, 0, none⟩) i i (Nat.le_refl _) 57
    by_cases hrest : l.drop k = []
    · rw [hrest] at ht ⊢
      rw [List.append_nil]
      have h2 : (Builtin.append_ #[57, 57] 57 #[cutHead lv i, cutTail lv k]).run Try.prog w = .ok (cutHead lv i) w := by
        rcases hhead with ⟨rfl, rfl⟩ | ⟨g, cap, rfl, _, _⟩
        · have : i = 0 := by simpa using hi
          subst this
          exact app_nothing ht none 0 0 (Nat.le_refl _) 57
        · exact app_nothing ht (some ⟨g, 0, none⟩) i i (Nat.le_refl _) 57
      refine ⟨_, _, _, _, h1, h2, ?_, Below.refl _ _, Nat.le_refl _, Below.refl _ _⟩
      rcases h with ⟨rfl, rfl⟩ | ⟨g, cap, cur, rfl, hg, hh, hn, hm, hs, hcur⟩
      · have : i = 0 := by simpa using hi
        subst this
        exact Or.inl ⟨rfl, rfl⟩
      · refine Or.inr ⟨g, i, cur, by rw [htl]; rfl, hg, hh, by omega, by omega, by omega, ?_⟩
        rw [htl, ← spCells_take l i hi, ← hcur, List.take_take, Nat.min_eq_left (by omega)]
    · rcases hhead with ⟨rfl, rfl⟩ | ⟨g, cap, rfl, _, hcells⟩
      · simp at hrest
      · obtain ⟨v2, w2, h2, ho, hg⟩ := app_full (olds := l.take i) hcells ht hrest (by rw [htl, hdl]; simp at hb; omega) 57
        rw [htl] at h2
        exact ⟨_, _, v2, w2, h1, h2, row3_of_owns ho hB, below_of_grown hg, hg.size, Below.refl _ _⟩
  · -- the head and what is put in
    have hstep : ∃ v1 w1, (Builtin.append_ #[57, 57] 57 #[cutHead lv i, iv]).run Try.prog w = .ok v1 w1 ∧ w1.ownsRow w.heap.size 67 3 v1 (l.take i ++ ins).length (spCells (l.take i ++ ins)) ∧ w.grownBy w1 none := by
      rcases hhead with ⟨rfl, rfl⟩ | ⟨g, cap, rfl, _, hcells⟩
      · have : i = 0 := by simpa using hi
        subst this
        obtain ⟨v1, w1, h1, ho, hg⟩ := app_own (olds := []) (w := w) (base := w.heap.size) (World.ownsRow_nil _ _ _ _) hx hins (by simp at hb ⊢; omega) (Nat.le_refl _) 57
        exact ⟨v1, w1, h1, ho, hg⟩
      · obtain ⟨v1, w1, h1, ho, hg⟩ := app_full (olds := l.take i) hcells hx hins (by rw [htl]; omega) 57
        rw [htl] at h1
        exact ⟨v1, w1, h1, ho, hg⟩
    obtain ⟨v1, w1, h1, ho, hg⟩ := hstep
    have hb1 := below_of_grown hg
    have ht1 := ht.below hb1
    by_cases hrest : l.drop k = []
    · rw [hrest] at ht1 ⊢
      rw [List.append_nil]
      have hR := row3_of_owns ho hB
      obtain ⟨a, c, hv, hc⟩ := hR.shape
      rw [hv] at h1 hR
      exact ⟨_, _, _, _, h1, app_nothing ht1 a _ c hc 57, hR, hb1, Nat.le_refl _, hb1⟩
    · obtain ⟨v2, w2, h2, ho2, hg2⟩ := app_own ho ht1 hrest (by rw [List.length_append, htl, hdl]; omega) hg.size 57
      exact ⟨v1, w1, v2, w2, h1, h2, row3_of_owns ho2 hB, hb1.grown hg2 hg.size (fun k hk' => (ho.lt k hk').1), hg2.size, hb1⟩
/-- An append whose run is known, for the walk. -/
theorem wpList_append_runs {P : Program} {w : World} {ops : Array Oper} {rest : List Oper} {o : Oper} {a : Act} {Q : Exit → Act → World → Prop} (hgd : o.guard = none) (s x : Operand) (t u : TypeId)
    (ho : o.op = .call { callee := .builtin .append, args := #[s, x], argTypes := #[t, u] }) (sv xv v' : Value) (w' : World) (hs : a.eval s = sv) (hx : a.eval x = xv)
    (hr : (Builtin.append_ #[t, u] o.type #[sv, xv]).run P w = .ok v' w') (h : wpList P ops Q rest (a.put o.dst v') w') : wpList P ops Q (o :: rest) a w := by
  refine wpList_plain hgd fun K hK => ?_
  unfold Oper.wp execOp
  simp only [ho, resolve, invoke, builtin, Sem.run_bind, Sem.run_pure, Result.andThen_ok, List.map_toArray, List.map_cons, List.map_nil, hs, hx, hr]
  exact hK _ _ h
end Go.Proofs.Ytckgmofgcddnaaa
