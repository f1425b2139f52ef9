/- The steps of a law's input: a slice of structs of four cells, opened; and few. -/
import Derived.Test.YtckgmofgcddnaaaPieceDo2
import Derived.ProofKit
import Derived.SizedLaws
import Derived.OpenShut
import Derived.Deep.Slices
namespace Go.Proofs.Ytckgmofgcddnaaa
open Go.RowKit

structure St where
  k : Int
  a : Int
  b : Int
  s : ByteArray
instance : Inhabited St := ⟨⟨0, 0, 0, ByteArray.empty⟩⟩
theorem cells51 : Try.prog.cellsOf 51 = 4 := by kernel_rfl
theorem cells3 : Try.prog.cellsOf 3 = 1 := by kernel_rfl
theorem cells9' : Try.prog.cellsOf 9 = 1 := by kernel_rfl
def StepCells (w : World) (a : Addr) (j : Nat) (x : St) : Prop :=
  w.cell? (a.add (j * 4)) = some (.int .i64 x.k) ∧ w.cell? (a.add (j * 4 + 1)) = some (.int .i64 x.a) ∧ w.cell? (a.add (j * 4 + 2)) = some (.int .i64 x.b) ∧ w.cell? (a.add (j * 4 + 3)) = some (.string x.s)
theorem weightsAll_mem {H : Type} {P : Program} {e : TypeId} : ∀ {ds : List (DataW H)} {d : DataW H}, d ∈ ds → ∀ n ∈ d.weights P e, n ∈ DataW.weightsAll P e ds
  | d0 :: ds, d, hd, n, hn => by
    simp only [DataW.weightsAll, List.mem_append]
    rcases List.mem_cons.1 hd with rfl | h
    · exact Or.inl hn
    · exact Or.inr (weightsAll_mem h n hn)
  | [], _, hd, _, _ => by simp at hd
theorem open_steps {H : Type} {enc : TypeId × Value → H} {w : World} {base : Nat} {spare : Nat → Bool} {held : Bool} {fuel : Nat} {cs : List Value} {x : DataW H × List MemPlace} (h : DataW.trod enc Try.prog w base spare held fuel 42 cs = some x) :
    (cs = [.slice none 0 0] ∧ x.1 = .nil) ∨
    ∃ (a : Addr) (cap : Nat) (l : List St) (elems rest : List (DataW H)), cs = [.slice (some a) l.length cap] ∧ l.length ≤ cap ∧ cap ≤ maxLen ∧ x.1 = .slice elems rest ∧
      (∀ (j : Nat) (y : St), l[j]? = some y → StepCells w a j y) ∧ ∀ (j : Nat) (y : St), l[j]? = some y → ∃ d0 d1 d2, (DataW.agg [d0, d1, d2, .lit (.string y.s.data.toList)]) ∈ elems := by
  rcases Go.Deep.open_slice Try.underlying42 h with ⟨h0, rfl⟩ | ⟨a, len, cap, m, n, D, Pl, rfl, hb, hl, hm, hmm, rfl, hx⟩
  · exact Or.inl ⟨h0, rfl⟩
  right
  have hlm : len ≤ m := by rw [hmm]; split <;> omega
  have each : ∀ i, i < len → ∃ y : St, StepCells w a i y ∧ ∃ d0 d1 d2, D i = .agg [d0, d1, d2, .lit (.string y.s.data.toList)] := by
    intro i hi
    obtain ⟨cs', h1, h2⟩ := hx i (by omega)
    rw [cells51] at h1
    obtain ⟨_, hlen, hcell⟩ := World.cells?_some h1
    obtain ⟨xs, k, hk, hxy, _, hxl, hf⟩ := DataW.trod_struct Try.underlying51 h2
    match xs, hxl, cs', hlen with
    | [y0, y1, y2, y3], _, [v0, v1, v2, v3], _ =>
      have g0 := hf 0 _ rfl
      have g1 := hf 1 _ rfl
      have g2 := hf 2 _ rfl
      have g3 := hf 3 _ rfl
      simp [cells3, cells9'] at g0 g1 g2 g3
      obtain ⟨k0, e0, -, -⟩ := DataW.trod_int Try.underlying3 g0
      obtain ⟨k1, e1, -, -⟩ := DataW.trod_int Try.underlying3 g1
      obtain ⟨k2, e2, -, -⟩ := DataW.trod_int Try.underlying3 g2
      obtain ⟨s, e3, ex, -⟩ := DataW.trod_string Try.underlying9 g3
      simp only [List.cons.injEq, and_true] at e0 e1 e2 e3
      subst e0; subst e1; subst e2; subst e3
      have c0 := hcell 0 (by omega)
      have c1 := hcell 1 (by omega)
      have c2 := hcell 2 (by omega)
      have c3 := hcell 3 (by omega)
      rw [Go.Deep.add_add] at c0 c1 c2 c3
      refine ⟨⟨k0, k1, k2, s⟩, ⟨by simpa using c0, by simpa using c1, by simpa using c2, by simpa using c3⟩, y0.1, y1.1, y2.1, ?_⟩
      simp only [Prod.mk.injEq] at hxy
      rw [hxy.1]
      simp [ex]
  obtain ⟨q, hq⟩ := Go.Deep.choose_lt each
  have hlen : ((List.range len).map q).length = len := by simp
  have hget : ∀ (j : Nat) (y : St), ((List.range len).map q)[j]? = some y → j < len ∧ y = q j := by
    intro j y hy
    rw [List.getElem?_map] at hy
    by_cases hj : j < len
    · rw [List.getElem?_range hj] at hy
      exact ⟨hj, by simpa using hy.symm⟩
    · rw [List.getElem?_eq_none (by simp; omega)] at hy
      simp at hy
  refine ⟨a, cap, (List.range len).map q, _, _, by rw [hlen], by omega, hm, rfl, ?_, ?_⟩
  · intro j y hy
    obtain ⟨hj, rfl⟩ := hget j y hy
    exact (hq j hj).1
  · intro j y hy
    obtain ⟨hj, rfl⟩ := hget j y hy
    obtain ⟨d0, d1, d2, hd⟩ := (hq j hj).2
    exact ⟨d0, d1, d2, List.mem_map.2 ⟨j, List.mem_range.2 hj, hd⟩⟩
theorem step_sized {H : Type} {ts : List TypeId} {ds : List (DataW H)} (h : (DataW.weightsEach Try.prog ts ds).all (· ≤ reachBytes) = true) {j : Nat} {elems rest : List (DataW H)} (ht : ts[j]? = some 42) (hd : ds[j]? = some (.slice elems rest))
    {d0 d1 d2 : DataW H} {b : List UInt8} (hm : DataW.agg [d0, d1, d2, .lit (.string b)] ∈ elems) : b.length ≤ reachBytes := by
  have h1 : b.length ∈ (DataW.agg [d0, d1, d2, .lit (.string b)] : DataW H).weights Try.prog 51 := by
    simp only [DataW.weights, Try.underlying51]
    refine DataW.weights_mem_each (j := 3) (t := 9) (d := .lit (.string b)) rfl rfl _ ?_
    simp [DataW.weights]
  have h2 := weightsAll_mem hm _ h1
  have := List.all_eq_true.1 h _ (DataW.weights_mem_each ht hd b.length (by
    simp only [DataW.weights, Try.underlying42]
    exact List.mem_cons_of_mem _ (List.mem_append_left _ h2)))
  simpa using this
/-- A slice's steps in memory. -/
def Steps (w : World) (a0 : Option Addr) (l : List St) : Prop := 0 < l.length → ∃ b off, a0 = some ⟨b, off, none⟩ ∧ b < w.heap.size ∧ ∀ (j : Nat) (y : St), l[j]? = some y →
  w.cell? ⟨b, off + j * 4, none⟩ = some (.int .i64 y.k) ∧ w.cell? ⟨b, off + j * 4 + 1, none⟩ = some (.int .i64 y.a) ∧ w.cell? ⟨b, off + j * 4 + 2, none⟩ = some (.int .i64 y.b) ∧ w.cell? ⟨b, off + j * 4 + 3, none⟩ = some (.string y.s)
theorem steps_none (w : World) (a0 : Option Addr) : Steps w a0 [] := fun h => by cases h
theorem steps_some {w : World} {a : Addr} {l : List St} (h : ∀ (j : Nat) (y : St), l[j]? = some y → StepCells w a j y) : Steps w (some a) l := by
  intro hp
  obtain ⟨b, off, spot⟩ := a
  have h0 := (h 0 l[0] (List.getElem?_eq_getElem hp)).1
  have hspot : spot = none := by simpa [Addr.add] using World.cell?_spot h0
  subst hspot
  refine ⟨b, off, rfl, ?_, ?_⟩
  · rw [Go.WideShapes.add_plain] at h0
    exact World.block_lt_of_cell? w _ h0
  · intro j y hy
    have := h j y hy
    unfold StepCells at this
    simp only [Go.WideShapes.add_plain] at this
    exact this
theorem Steps.below {w w' : World} {a0 : Option Addr} {l : List St} (h : Steps w a0 l) (hb : Below w.heap.size w w') : Steps w' a0 l := by
  intro hp
  obtain ⟨b, off, e, hlt, hc⟩ := h hp
  refine ⟨b, off, e, Nat.lt_of_lt_of_le hlt hb.size, fun j y hy => ?_⟩
  obtain ⟨c0, c1, c2, c3⟩ := hc j y hy
  exact ⟨(hb.cell (p := ⟨b, _, none⟩) hlt).trans c0, (hb.cell (p := ⟨b, _, none⟩) hlt).trans c1, (hb.cell (p := ⟨b, _, none⟩) hlt).trans c2, (hb.cell (p := ⟨b, _, none⟩) hlt).trans c3⟩
def sizes (l : List St) : Nat := (l.map fun y => y.s.size).sum
theorem sizes_take_succ (l : List St) (k : Nat) (h : k < l.length) : sizes (l.take (k + 1)) = sizes (l.take k) + l[k].s.size := by
  unfold sizes
  rw [List.take_succ_eq_append_getElem h, List.map_append, List.sum_append]
  simp
theorem sizes_le' (M : Nat) (l : List St) (h : ∀ y ∈ l, y.s.size ≤ M) (k : Nat) : sizes (l.take k) ≤ k * M := by
  induction k with
  | zero => simp [sizes]
  | succ k ih =>
    rw [Nat.succ_mul]
    by_cases hk : k < l.length
    · rw [sizes_take_succ l k hk]
      have := h _ (List.getElem_mem hk)
      omega
    · rw [show l.take (k + 1) = l.take k from by rw [List.take_of_length_le (by omega), List.take_of_length_le (by omega)]]
      omega
theorem sizes_le (l : List St) (h : ∀ y ∈ l, y.s.size ≤ 140737488351232) (k : Nat) : sizes (l.take k) ≤ k * 140737488351232 := sizes_le' _ l h k
theorem sizes_mem (l : List St) (y : St) (h : y ∈ l) : y.s.size ≤ sizes l := by
  induction l with
  | nil => cases h
  | cons x l ih =>
    have e : sizes (x :: l) = x.s.size + sizes l := by simp [sizes]
    rcases List.mem_cons.1 h with rfl | h
    · omega
    · have := ih h
      omega
theorem sizes_take (l : List St) (k : Nat) : sizes (l.take k) ≤ sizes l := by
  have e : l = l.take k ++ l.drop k := (List.take_append_drop k l).symm
  have e2 : sizes l = sizes (l.take k) + sizes (l.drop k) := by
    have : sizes l = sizes (l.take k ++ l.drop k) := by rw [← e]
    rw [this]; unfold sizes; rw [List.map_append, List.sum_append]
  omega
def fewB (l : List St) : Bool := decide (l.length ≤ 200) && decide (sizes l ≤ 20000)
set_option maxRecDepth 100000 in
set_option maxHeartbeats 1000000 in
theorem few_any (a0 : Option Addr) (c : Nat) (l : List St) (w : World) (h : Steps w a0 l) (hs : ∀ y ∈ l, y.s.size ≤ 140737488351232) (hm : l.length ≤ maxLen) :
    Calls Try.prog 23 #[.slice a0 l.length c] w fun e w' => e = .returned (.bool (fewB l)) ∧ w = w' := by
  unfold maxLen at hm
  have HS := Lib.hid h
  have HZ := Lib.hid (sizes_le l hs)
  have HY := Lib.hid hs
  clear h hs
  go_enter Try.func23, Try.ntmps23
  go_wp2_with fail
  go_loopw [3, 4] (fun x i wr => ∃ k : Nat, k ≤ l.length ∧ k ≤ 201 ∧ i = .int .i64 k ∧ x = .int .i64 (sizes (l.take k) : Nat) ∧ w = wr) (fun _ i _ => l.length - (intOf i).toNat)
  case atStart => exact ⟨0, Nat.zero_le _, Nat.zero_le _, rfl, rfl, rfl⟩
  case round =>
    obtain ⟨k, hk, hk2, rfl, rfl, rfl⟩ := hrel
    by_cases hlt : k < l.length
    · by_cases hlt2 : k < 201
      · obtain ⟨b, off, rfl, hb, hc⟩ := HS.out (by omega)
        obtain ⟨-, -, -, c3⟩ := hc k l[k] (List.getElem?_eq_getElem hlt)
        have hsz := HY.out _ (List.getElem_mem hlt)
        have hz := HZ.out k
        have HT := Lib.hid (sizes_take_succ l k hlt)
        obtain ⟨t, ht⟩ : ∃ t, t = l[k].s := ⟨_, rfl⟩
        rw [← ht] at c3 hsz HT
        obtain ⟨z, hz2⟩ : ∃ z, z = sizes (l.take k) := ⟨_, rfl⟩
        rw [← hz2] at hz HT ⊢
        clear hc ht hz2
        go_wp2_with fail
        go_roundw
        case rel => exact ⟨k + 1, by omega, by omega, by go_num, by rw [HT.out]; go_num, by first | rfl | trivial⟩
        case measure => simp [intOf]; omega
      · have e : k = 201 := by omega
        subst e
        have hf : fewB l = false := by unfold fewB; rw [show decide (l.length ≤ 200) = false from by simp; omega]; rfl
        have HF := Lib.hid hf
        clear hf
        go_wp2_with fail
        go_ret
        exact ⟨by rw [HF.out]; rfl, rfl⟩
    · have e : k = l.length := by omega
      subst e
      rw [List.take_length]
      by_cases h2 : l.length ≤ 200
      · have hf : fewB l = decide (sizes l ≤ 20000) := by unfold fewB; rw [show decide (l.length ≤ 200) = true from by simpa using h2]; rfl
        have HF := Lib.hid hf
        clear hf
        go_wp2_with fail
        go_ret
        refine ⟨?_, rfl⟩
        rw [HF.out]
        show Ending.returned (.bool (decide (((sizes l : Nat) : Int) ≤ 20000))) = _
        have e2 : decide (((sizes l : Nat) : Int) ≤ 20000) = decide (sizes l ≤ 20000) := decide_eq_decide.2 (by omega)
        rw [e2]
      · have hf : fewB l = false := by unfold fewB; rw [show decide (l.length ≤ 200) = false from by simpa using h2]; rfl
        have HF := Lib.hid hf
        clear hf
        go_wp2_with fail
        go_ret
        exact ⟨by rw [HF.out]; rfl, rfl⟩
end Go.Proofs.Ytckgmofgcddnaaa
