/- Both sides behind the first steps. -/
import Derived.Test.YtckgmofgcddnaaaPieceRow
namespace Go.Proofs.Ytckgmofgcddnaaa
open Go.RowKit

/-- Both behind the first k steps. -/
def Twin.run (t : Twin) : List St → Twin
  | [] => t
  | y :: l => (t.step y.k y.a y.b y.s).run l
theorem Twin.run_append (t : Twin) (l m : List St) : t.run (l ++ m) = (t.run l).run m := by
  induction l generalizing t with
  | nil => rfl
  | cons y l ih => exact ih _
theorem Twin.run_take (t : Twin) (l : List St) (k : Nat) (h : k < l.length) : t.run (l.take (k + 1)) = (t.run (l.take k)).step l[k].k l[k].a l[k].b l[k].s := by
  rw [List.take_succ_eq_append_getElem h, Twin.run_append]
  rfl
theorem Twin.Good.run {t : Twin} {i c z : Nat} (h : t.Good i c z) (l : List St) : (t.run l).Good (i + l.length) (c + sizes l) z := by
  induction l generalizing t i c with
  | nil => simpa [sizes, Twin.run] using h
  | cons y l ih =>
    have h1 := ih (h.step y.k y.a y.b y.s)
    have e : sizes (y :: l) = y.s.size + sizes l := by simp [sizes]
    rw [e, List.length_cons]
    show ((t.step y.k y.a y.b y.s).run l).Good _ _ _
    have e1 : i + 1 + l.length = i + (l.length + 1) := by omega
    have e2 : c + y.s.size + sizes l = c + (y.s.size + sizes l) := by omega
    rw [e1, e2] at h1
    exact h1
/-- Both at first. -/
def twin0 (s : ByteArray) : Twin := ⟨s, [], newL s.size, s, 0, 0⟩
def twinAt (s : ByteArray) (l : List St) (k : Nat) : Twin := (twin0 s).run (l.take k)
theorem twinAt_good (s : ByteArray) (l : List St) (k : Nat) : (twinAt s l k).Good k (sizes l) s.size := by
  have h : (twinAt s l k).Good (0 + (l.take k).length) (0 + sizes (l.take k)) s.size := (Twin.Good.new s).run (l.take k)
  have h1 := sizes_take l k
  have h2 : (l.take k).length ≤ k := by rw [List.length_take]; omega
  exact ⟨h.ok, h.body, h.add, h.few, by have := h.steps; omega, by have := h.put; omega, by have := h.len; omega, by have := h.first; omega⟩
theorem twinAt_succ (s : ByteArray) (l : List St) (k : Nat) (h : k < l.length) : twinAt s l (k + 1) = (twinAt s l k).step l[k].k l[k].a l[k].b l[k].s := Twin.run_take _ _ _ h
def refCells (s : ByteArray) : Array Value := #[.string s, .int .i64 0, .int .i64 0]
theorem both_first {w w1 : World} {s : ByteArray} (h : Tab w1 w.heap.size w.heap.size s [] (newL s.size)) (hb : Below w.heap.size w w1) : Both (w1.alloc (.cells (refCells s) 48)) w.heap.size w.heap.size w1.heap.size (twin0 s) :=
  ⟨h.below ((Below.refl _ _).alloc (Nat.le_refl _) _), hb.size, heap_alloc_new w1 _⟩
end Go.Proofs.Ytckgmofgcddnaaa
