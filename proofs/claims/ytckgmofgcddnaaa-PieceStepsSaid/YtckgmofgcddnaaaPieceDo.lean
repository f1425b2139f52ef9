/- A step on both: the piece table and the reference's text. -/
import Derived.Test.YtckgmofgcddnaaaPieceWalks6
import Derived.Test.YtckgmofgcddnaaaPieceRef
import Derived.Deep.RegionHeld3
namespace Go.Proofs.Ytckgmofgcddnaaa
open Go.RowKit

theorem Ref.mine {w w' : World} {B X : Nat} {S : ByteArray} {a n : Nat} (h : Ref w B X S a n) (m : Mine B w w') : Ref w' B X S a n := ⟨h.low, m.2 X _ 48 _ (by unfold Alien; decide) h.blk⟩
theorem Tab.yours {w w' : World} {B T : Nat} {f : ByteArray} {d : List UInt8} {l : List Sp} (h : Tab w B T f d l) (m : Yours B w w') : Tab w' B T f d l := by
  obtain ⟨sv, lv, h⟩ := h
  refine ⟨sv, lv, h.low, m.2 T _ 59 _ (by decide) h.blk, ?_, h.row.keep fun k cs hk _ => m.2 k cs 67 _ (by decide) hk, h.ok⟩
  refine ⟨h.sec.1, ?_⟩
  rcases h.sec.2 with hv | ⟨g, cap, cur, hv, hg, hh, hr⟩
  · exact Or.inl hv
  · exact Or.inr ⟨g, cap, cur, hv, hg, m.2 g _ 5 _ (by decide) hh, hr⟩
def TPost (w : World) (B T : Nat) (c : Int) (f : ByteArray) (d : List UInt8) (l : List Sp) (e : Ending) (w' : World) : Prop := e = .returned (.int .i64 c) ∧ Tab w' B T f d l ∧ Mine B w w'
def RPost (w : World) (B X : Nat) (c : Int) (S : ByteArray) (a n : Nat) (e : Ending) (w' : World) : Prop := e = .returned (.int .i64 c) ∧ Ref w' B X S a n ∧ Yours B w w'
def inB (N : Nat) (p : Int) : Bool := decide (0 ≤ p ∧ p ≤ N)
def codeOf (b : Bool) : Int := if b then 0 else 6
def insD (d : List UInt8) (N : Nat) (p : Int) (s : ByteArray) : List UInt8 := if inB N p && !s.toList.isEmpty then d ++ s.data.toList else d
def insLL (d : List UInt8) (l : List Sp) (N : Nat) (p : Int) (s : ByteArray) : List Sp := if inB N p && !s.toList.isEmpty then insertL l p.toNat d.length s.size else l
def delLL (l : List Sp) (N : Nat) (p q : Int) : List Sp := if rightB N p q && decide (p < q) then deleteL l p.toNat q.toNat else l
section
variable {w : World} {B T X : Nat} {f : ByteArray} {d : List UInt8} {l : List Sp} {S : ByteArray} {a n : Nat}
theorem Tab.le (h : Tab w B T f d l) : B ≤ w.heap.size := by obtain ⟨_, _, h⟩ := h; exact h.le
theorem tins_any (h : Tab w B T f d l) (N : Nat) (hN : total l = N) (p : Int) (s : ByteArray)
    (hlen : l.length ≤ 800000) (hf : f.size ≤ 140737488355328) (hd : d.length + s.size ≤ 140737488355328) (ht : N + s.size ≤ 1000000000000000) :
    Calls Try.prog 33 #[.pointer (some ⟨T, 0, none⟩), .int .i64 p, .string s] w (TPost w B T (codeOf (inB N p)) f (insD d N p s) (insLL d l N p s)) := by
  subst hN
  cases hi : inB (total l) p
  · refine (insert_out h p (by unfold inB at hi; simp at hi; omega) s).mono ?_
    rintro e w' ⟨rfl, rfl⟩
    refine ⟨rfl, ?_, Mine.refl _ _⟩
    unfold insD insLL
    rw [hi]
    exact h
  · unfold inB at hi
    simp only [decide_eq_true_eq] at hi
    obtain ⟨k, rfl⟩ := Int.eq_ofNat_of_zero_le hi.1
    have hi2 : inB (total l) (k : Int) = true := by unfold inB; simp; omega
    cases hs : s.toList.isEmpty
    · refine (insert_in h k (by omega) s hs hlen hf hd ht).mono ?_
      rintro e w' ⟨rfl, h1, h2⟩
      refine ⟨rfl, ?_, h2⟩
      unfold insD insLL
      rw [hi2, hs]
      exact h1
    · refine (insert_empty h k (by omega) s hs).mono ?_
      rintro e w' ⟨rfl, rfl⟩
      refine ⟨rfl, ?_, Mine.refl _ _⟩
      unfold insD insLL
      rw [hs]
      simpa using h
theorem tdel_any (h : Tab w B T f d l) (N : Nat) (hN : total l = N) (p q : Int)
    (hlen : l.length ≤ 800000) (hf : f.size ≤ 140737488355328) (hd : d.length ≤ 140737488355328) (ht : N ≤ 1000000000000000) :
    Calls Try.prog 34 #[.pointer (some ⟨T, 0, none⟩), .int .i64 p, .int .i64 q] w (TPost w B T (codeOf (rightB N p q)) f d (delLL l N p q)) := by
  subst hN
  cases hi : rightB (total l) p q
  · refine (delete_out h p q hi).mono ?_
    rintro e w' ⟨rfl, rfl⟩
    refine ⟨rfl, ?_, Mine.refl _ _⟩
    unfold delLL
    rw [hi]
    exact h
  · have hi2 := hi
    unfold rightB at hi
    simp only [decide_eq_true_eq] at hi
    obtain ⟨k, rfl⟩ := Int.eq_ofNat_of_zero_le hi.1
    obtain ⟨m, rfl⟩ := Int.eq_ofNat_of_zero_le (a := q) (by omega)
    by_cases hkm : k = m
    · subst hkm
      refine (delete_empty h k hi2).mono ?_
      rintro e w' ⟨rfl, rfl⟩
      refine ⟨rfl, ?_, Mine.refl _ _⟩
      unfold delLL
      simpa using h
    · have hlt : ((k : Int) < (m : Int)) := by omega
      refine (delete_in h k m (by omega) (by omega) hlen hf hd ht).mono ?_
      rintro e w' ⟨rfl, h1, h2⟩
      refine ⟨rfl, ?_, h2⟩
      unfold delLL
      rw [hi2]
      simpa [hlt] using h1
def insS (S : ByteArray) (p : Int) (s : ByteArray) : ByteArray := if inB S.size p then insRef S p.toNat s else S
def insA (N a : Nat) (p : Int) (s : ByteArray) : Nat := if inB N p then a + s.size else a
def insN (N n : Nat) (p : Int) : Nat := if inB N p then n + 1 else n
def delS (S : ByteArray) (p q : Int) : ByteArray := if rightB S.size p q then delRef S p.toNat q.toNat else S
def delN (N n : Nat) (p q : Int) : Nat := if rightB N p q then n + 1 else n
theorem rins_any (h : Ref w B X S a n) (p : Int) (s : ByteArray) (hS : S.size ≤ 1000000000000000) (hs : s.size ≤ 1000000000000000) (ha : a ≤ 1000000000000000) (hn : n ≤ 1000000000000000) :
    Calls Try.prog 40 #[.pointer (some ⟨X, 0, none⟩), .int .i64 p, .string s] w (RPost w B X (codeOf (inB S.size p)) (insS S p s) (insA S.size a p s) (insN S.size n p)) := by
  cases hi : inB S.size p
  · refine (refinsert_out h p s (by unfold inB at hi; simp at hi; omega)).mono ?_
    rintro e w' ⟨rfl, rfl⟩
    refine ⟨rfl, ?_, Yours.refl _ _⟩
    unfold insS insA insN
    rw [hi]
    exact h
  · have hi2 := hi
    unfold inB at hi
    simp only [decide_eq_true_eq] at hi
    obtain ⟨k, rfl⟩ := Int.eq_ofNat_of_zero_le hi.1
    refine (refinsert_in h k s (by omega) hS hs ha hn).mono ?_
    rintro e w' ⟨rfl, h1, h2⟩
    refine ⟨rfl, ?_, h2⟩
    unfold insS insA insN
    rw [hi2]
    exact h1
theorem rdel_any (h : Ref w B X S a n) (p q : Int) (hS : S.size ≤ 1000000000000000) (hn : n ≤ 1000000000000000) :
    Calls Try.prog 41 #[.pointer (some ⟨X, 0, none⟩), .int .i64 p, .int .i64 q] w (RPost w B X (codeOf (rightB S.size p q)) (delS S p q) a (delN S.size n p q)) := by
  cases hi : rightB S.size p q
  · refine (refdelete_out h p q hi).mono ?_
    rintro e w' ⟨rfl, rfl⟩
    refine ⟨rfl, ?_, Yours.refl _ _⟩
    unfold delS delN
    rw [hi]
    exact h
  · have hi2 := hi
    unfold rightB at hi
    simp only [decide_eq_true_eq] at hi
    obtain ⟨k, rfl⟩ := Int.eq_ofNat_of_zero_le hi.1
    obtain ⟨m, rfl⟩ := Int.eq_ofNat_of_zero_le (a := q) (by omega)
    refine (refdelete_in h k m (by omega) (by omega) hS hn).mono ?_
    rintro e w' ⟨rfl, h1, h2⟩
    refine ⟨rfl, ?_, h2⟩
    unfold delS delN
    rw [hi2]
    exact h1
end
/-- The piece table and the reference's text, side by side. -/
structure Twin where
  f : ByteArray
  d : List UInt8
  l : List Sp
  S : ByteArray
  a : Nat
  n : Nat
/-- Both behind a step. -/
def Twin.step (t : Twin) (k p q : Int) (s : ByteArray) : Twin :=
  if k = 0 then ⟨t.f, insD t.d t.S.size p s, insLL t.d t.l t.S.size p s, insS t.S p s, insA t.S.size t.a p s, insN t.S.size t.n p⟩
  else if k = 1 then ⟨t.f, t.d, delLL t.l t.S.size p q, delS t.S p q, t.a, delN t.S.size t.n p q⟩
  else ⟨allOf t.f t.d t.l, [], newL (total t.l), t.S, 0, 0⟩
/-- They tell the same bytes, and as many put in; so few pieces, behind i steps that brought c bytes, of z at first. -/
structure Twin.Good (t : Twin) (i c z : Nat) : Prop where
  ok : okAll t.f.data.toList t.d t.l
  body : body t.f.data.toList t.d t.l = t.S.data.toList
  add : t.a = t.d.length
  few : t.l.length ≤ 1 + 2 * t.n
  steps : t.n ≤ i
  put : t.a ≤ c
  len : t.S.size ≤ z + c
  first : t.f.size ≤ z + c
theorem Twin.Good.total {t : Twin} {i c z : Nat} (h : t.Good i c z) : total t.l = t.S.size := by
  have := body_length h.ok
  rw [h.body, Array.length_toList] at this
  exact this.symm
theorem ba_len (s : ByteArray) : s.data.toList.length = s.size := by rw [Array.length_toList]; rfl
theorem is_empty (s : ByteArray) (h : s.toList.isEmpty = true) : s.data.toList = [] := by
  rw [ByteArray.toList_eq] at h
  simpa using h
theorem insRef_data (S : ByteArray) (p : Nat) (s : ByteArray) : (insRef S p s).data.toList = S.data.toList.take p ++ s.data.toList ++ S.data.toList.drop p := by
  unfold insRef
  rw [ByteArray.data_append, ByteArray.data_append, Array.toList_append, Array.toList_append, Lib.extract_to_end]
  simp
theorem delRef_data (S : ByteArray) (p q : Nat) : (delRef S p q).data.toList = S.data.toList.take p ++ S.data.toList.drop q := by
  unfold delRef
  rw [ByteArray.data_append, Array.toList_append, Lib.extract_to_end]
  simp
theorem newL_ok (s : ByteArray) : okAll s.data.toList [] (newL s.size) ∧ body s.data.toList [] (newL s.size) = s.data.toList ∧ (newL s.size).length ≤ 1 ∧ total (newL s.size) = s.size := by
  unfold newL
  split
  · have : s.data.toList = [] := List.length_eq_zero_iff.1 (by rw [ba_len]; assumption)
    refine ⟨(by intro x hx; cases hx), by rw [this]; rfl, by simp, ?_⟩
    simp [Go.Proofs.Ytckgmofgcddnaaa.total]; omega
  · refine ⟨?_, ?_, by simp, ?_⟩
    · intro x hx
      have : x = ⟨false, 0, s.size⟩ := by simpa using hx
      subst this
      exact ⟨by show 0 < s.size; omega, by show s.size ≤ s.data.toList.length; rw [ba_len]; exact Nat.le_refl _⟩
    · simp [Go.Proofs.Ytckgmofgcddnaaa.body, Sp.text, Sp.src]
      rw [List.take_of_length_le (by rw [ba_len]; exact Nat.le_refl _)]
    · simp [Go.Proofs.Ytckgmofgcddnaaa.total, Sp.len]
theorem Twin.Good.new (s : ByteArray) : (Twin.mk s [] (newL s.size) s 0 0).Good 0 0 s.size := by
  obtain ⟨h1, h2, h3, h4⟩ := newL_ok s
  exact ⟨h1, h2, rfl, by simpa using h3, Nat.le_refl _, Nat.le_refl _, Nat.le_refl _, Nat.le_refl _⟩
theorem Twin.Good.step {t : Twin} {i c z : Nat} (h : t.Good i c z) (k p q : Int) (s : ByteArray) : (t.step k p q s).Good (i + 1) (c + s.size) z := by
  have ht := h.total
  unfold Twin.step
  have h1 := h.ok; have h2 := h.body; have h3 := h.add; have h4 := h.few; have h5 := h.steps; have h6 := h.put; have h7 := h.len; have h8 := h.first
  split
  · unfold insD insLL insS insA insN
    cases hi : inB t.S.size p
    · exact ⟨h1, h2, h3, h4, by show t.n ≤ _; omega, by show t.a ≤ _; omega, by show t.S.size ≤ _; omega, by show t.f.size ≤ _; omega⟩
    · have hi2 := hi
      unfold inB at hi
      simp only [decide_eq_true_eq] at hi
      obtain ⟨m, rfl⟩ := Int.eq_ofNat_of_zero_le hi.1
      have hsz : (insRef t.S m s).size = t.S.size + s.size := by
        rw [← ba_len, insRef_data]
        simp only [List.length_append, List.length_take, List.length_drop, ba_len]
        omega
      cases hs : s.toList.isEmpty
      · have hne := not_empty s hs
        obtain ⟨j1, j2, j3, j4⟩ := insert_spec h1 m (by omega) hne
        rw [ba_len] at j1 j2 j3 j4
        refine ⟨j1, ?_, ?_, ?_, ?_, ?_, ?_, ?_⟩
        · show Go.Proofs.Ytckgmofgcddnaaa.body _ _ (insertL t.l m t.d.length s.size) = (insRef t.S m s).data.toList
          rw [insRef_data, ← h2]; exact j2
        · show t.a + s.size = (t.d ++ s.data.toList).length
          rw [length_more]; omega
        · show (insertL t.l m t.d.length s.size).length ≤ 1 + 2 * (t.n + 1)
          omega
        · show t.n + 1 ≤ i + 1
          omega
        · show t.a + s.size ≤ _
          omega
        · show (insRef t.S m s).size ≤ _
          omega
        · show t.f.size ≤ _
          omega
      · have hs0 : s.data.toList = [] := by
          have e : s.toList = [] := by simpa using hs
          exact is_empty s hs
        have hs1 : s.size = 0 := by rw [← ba_len, hs0]; rfl
        refine ⟨h1, ?_, ?_, ?_, ?_, ?_, ?_, ?_⟩
        · show Go.Proofs.Ytckgmofgcddnaaa.body t.f.data.toList t.d t.l = (insRef t.S m s).data.toList
          rw [insRef_data, hs0, List.append_nil, List.take_append_drop]; exact h2
        · show t.a + s.size = t.d.length
          omega
        · show t.l.length ≤ 1 + 2 * (t.n + 1)
          omega
        · show t.n + 1 ≤ i + 1
          omega
        · show t.a + s.size ≤ _
          omega
        · show (insRef t.S m s).size ≤ _
          omega
        · show t.f.size ≤ _
          omega
  · split
    · unfold delLL delS delN
      cases hi : rightB t.S.size p q
      · exact ⟨h1, h2, h3, h4, by show t.n ≤ _; omega, by show t.a ≤ _; omega, by show t.S.size ≤ _; omega, by show t.f.size ≤ _; omega⟩
      · have hi2 := hi
        unfold rightB at hi
        simp only [decide_eq_true_eq] at hi
        obtain ⟨m, rfl⟩ := Int.eq_ofNat_of_zero_le hi.1
        obtain ⟨r, rfl⟩ := Int.eq_ofNat_of_zero_le (a := q) (by omega)
        have hsz : (delRef t.S m r).size ≤ t.S.size := by
          rw [← ba_len, delRef_data]
          simp only [List.length_append, List.length_take, List.length_drop, ba_len]
          omega
        by_cases hlt : ((m : Int) < (r : Int))
        · obtain ⟨j1, j2, j3, j4, -, -⟩ := delete_spec h1 m r (by omega) (by omega)
          rw [show (true && decide ((m : Int) < (r : Int))) = true from by simpa using hlt]
          refine ⟨j1, ?_, h3, ?_, ?_, ?_, ?_, ?_⟩
          · show Go.Proofs.Ytckgmofgcddnaaa.body _ _ (deleteL t.l m r) = (delRef t.S m r).data.toList
            rw [delRef_data, ← h2]; exact j2
          · show (deleteL t.l m r).length ≤ 1 + 2 * (t.n + 1)
            omega
          · show t.n + 1 ≤ i + 1
            omega
          · show t.a ≤ _
            omega
          · show (delRef t.S m r).size ≤ _
            omega
          · show t.f.size ≤ _
            omega
        · have e : m = r := by omega
          subst e
          rw [show (true && decide ((m : Int) < (m : Int))) = false from by simp]
          refine ⟨h1, ?_, h3, ?_, ?_, ?_, ?_, ?_⟩
          · show Go.Proofs.Ytckgmofgcddnaaa.body t.f.data.toList t.d t.l = (delRef t.S m m).data.toList
            rw [delRef_data, List.take_append_drop]; exact h2
          · show t.l.length ≤ 1 + 2 * (t.n + 1)
            omega
          · show t.n + 1 ≤ i + 1
            omega
          · show t.a ≤ _
            omega
          · show (delRef t.S m m).size ≤ _
            omega
          · show t.f.size ≤ _
            omega
    · have hall : (allOf t.f t.d t.l).data.toList = t.S.data.toList := by
        show (Go.Proofs.Ytckgmofgcddnaaa.body _ _ t.l).toArray.toList = _
        rw [h2]
      have hall2 : allOf t.f t.d t.l = t.S := ba_same _ _ hall
      rw [hall2, ht]
      obtain ⟨j1, j2, j3, j4⟩ := newL_ok t.S
      exact ⟨j1, j2, rfl, by simpa using j3, Nat.zero_le _, Nat.zero_le _, by show t.S.size ≤ _; omega, by show t.S.size ≤ _; omega⟩
end Go.Proofs.Ytckgmofgcddnaaa
