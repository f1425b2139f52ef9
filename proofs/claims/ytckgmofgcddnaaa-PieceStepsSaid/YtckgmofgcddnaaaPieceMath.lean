/- The plain laws of a piece table: pieces of two lists of bytes; no program, no memory. -/
namespace Go.Proofs.Ytckgmofgcddnaaa

/-- A piece: of the second store or of the first, from where to where. -/
structure Sp where
  add : Bool
  lo : Nat
  hi : Nat
def Sp.len (s : Sp) : Nat := s.hi - s.lo
def Sp.src (f d : List UInt8) (s : Sp) : List UInt8 := if s.add then d else f
def Sp.text (f d : List UInt8) (s : Sp) : List UInt8 := ((s.src f d).take s.hi).drop s.lo
def Sp.ok (f d : List UInt8) (s : Sp) : Prop := s.lo < s.hi ∧ s.hi ≤ (s.src f d).length
def okAll (f d : List UInt8) (l : List Sp) : Prop := ∀ s ∈ l, s.ok f d
/-- All bytes. -/
def body (f d : List UInt8) (l : List Sp) : List UInt8 := (l.map (Sp.text f d)).flatten
def total (l : List Sp) : Nat := (l.map Sp.len).sum

theorem body_nil (f d : List UInt8) : body f d [] = [] := rfl
theorem body_cons (f d : List UInt8) (s : Sp) (l : List Sp) : body f d (s :: l) = s.text f d ++ body f d l := by simp [body]
theorem body_append (f d : List UInt8) (a b : List Sp) : body f d (a ++ b) = body f d a ++ body f d b := by simp [body]
theorem total_nil : total [] = 0 := rfl
theorem total_cons (s : Sp) (l : List Sp) : total (s :: l) = s.len + total l := by simp [total]
theorem total_append (a b : List Sp) : total (a ++ b) = total a + total b := by simp [total]
theorem text_length {f d : List UInt8} {s : Sp} (h : s.ok f d) : (s.text f d).length = s.len := by
  unfold Sp.text Sp.len
  rw [List.length_drop, List.length_take]
  have := h.2
  omega
theorem okAll_cons {f d : List UInt8} {s : Sp} {l : List Sp} : okAll f d (s :: l) ↔ s.ok f d ∧ okAll f d l := by simp [okAll]
theorem okAll_append {f d : List UInt8} {a b : List Sp} : okAll f d (a ++ b) ↔ okAll f d a ∧ okAll f d b := by
  simp only [okAll, List.mem_append]
  exact ⟨fun h => ⟨fun s hs => h s (Or.inl hs), fun s hs => h s (Or.inr hs)⟩, fun h s hs => hs.elim (h.1 s) (h.2 s)⟩
theorem okAll_take {f d : List UInt8} {l : List Sp} (h : okAll f d l) (i : Nat) : okAll f d (l.take i) := fun s hs => h s (List.mem_of_mem_take hs)
theorem okAll_drop {f d : List UInt8} {l : List Sp} (h : okAll f d l) (i : Nat) : okAll f d (l.drop i) := fun s hs => h s (List.mem_of_mem_drop hs)
theorem body_length {f d : List UInt8} {l : List Sp} (h : okAll f d l) : (body f d l).length = total l := by
  induction l with
  | nil => rfl
  | cons s l ih =>
    have h2 := okAll_cons.1 h
    rw [body_cons, total_cons, List.length_append, text_length h2.1, ih h2.2]
theorem total_zero {f d : List UInt8} {l : List Sp} (h : okAll f d l) : total l = 0 ↔ l = [] := by
  constructor
  · intro e
    cases l with
    | nil => rfl
    | cons s l =>
      have h2 := okAll_cons.1 h
      rw [total_cons] at e
      have := h2.1.1
      unfold Sp.len at e
      omega
  · rintro rfl; rfl
theorem length_le_total {f d : List UInt8} {l : List Sp} (h : okAll f d l) : l.length ≤ total l := by
  induction l with
  | nil => simp
  | cons s l ih =>
    have h2 := okAll_cons.1 h
    have := ih h2.2
    have := h2.1.1
    rw [total_cons, List.length_cons]
    unfold Sp.len
    omega
theorem total_take_le (l : List Sp) (k : Nat) : total (l.take k) ≤ total l := by
  have h : total l = total (l.take k) + total (l.drop k) := by rw [← total_append, List.take_append_drop]
  omega
theorem total_take_succ (l : List Sp) (k : Nat) (h : k < l.length) : total (l.take (k + 1)) = total (l.take k) + (l[k]).len := by
  rw [List.take_succ_eq_append_getElem h, total_append, total_cons, total_nil]; omega
theorem body_take_succ (f d : List UInt8) (l : List Sp) (k : Nat) (h : k < l.length) : body f d (l.take (k + 1)) = body f d (l.take k) ++ (l[k]).text f d := by
  rw [List.take_succ_eq_append_getElem h, body_append, body_cons, body_nil, List.append_nil]

/-- A piece begins at an offset: the pieces, and which one. -/
def splitL : List Sp → Nat → List Sp
  | [], _ => []
  | s :: r, p => if p = 0 then s :: r else if p < s.len then ⟨s.add, s.lo, s.lo + p⟩ :: ⟨s.add, s.lo + p, s.hi⟩ :: r else s :: splitL r (p - s.len)
def splitI : List Sp → Nat → Nat
  | [], _ => 0
  | s :: r, p => if p = 0 then 0 else if p < s.len then 1 else splitI r (p - s.len) + 1
theorem splitL_zero (l : List Sp) : splitL l 0 = l := by cases l <;> simp [splitL]
theorem splitI_zero (l : List Sp) : splitI l 0 = 0 := by cases l <;> simp [splitI]
theorem splitL_cut (s : Sp) (r : List Sp) (p : Nat) (h0 : p ≠ 0) (h : p < s.len) : splitL (s :: r) p = ⟨s.add, s.lo, s.lo + p⟩ :: ⟨s.add, s.lo + p, s.hi⟩ :: r := by
  unfold splitL; rw [if_neg h0, if_pos h]
theorem splitI_cut (s : Sp) (r : List Sp) (p : Nat) (h0 : p ≠ 0) (h : p < s.len) : splitI (s :: r) p = 1 := by
  unfold splitI; rw [if_neg h0, if_pos h]
theorem splitL_step (s : Sp) (r : List Sp) (p : Nat) (h0 : p ≠ 0) (h : ¬ p < s.len) : splitL (s :: r) p = s :: splitL r (p - s.len) := by
  rw [splitL, if_neg h0, if_neg h]
theorem splitI_step (s : Sp) (r : List Sp) (p : Nat) (h0 : p ≠ 0) (h : ¬ p < s.len) : splitI (s :: r) p = splitI r (p - s.len) + 1 := by
  rw [splitI, if_neg h0, if_neg h]
theorem text_cut (f d : List UInt8) (s : Sp) (p : Nat) (h : s.ok f d) (hp : p ≤ s.len) :
    (⟨s.add, s.lo, s.lo + p⟩ : Sp).text f d = (s.text f d).take p ∧ (⟨s.add, s.lo + p, s.hi⟩ : Sp).text f d = (s.text f d).drop p := by
  have hlen := h.2
  have hlt := h.1
  unfold Sp.len at hp
  unfold Sp.text
  constructor
  · show List.drop s.lo (List.take (s.lo + p) (s.src f d)) = _
    rw [List.take_drop, List.take_take, Nat.min_eq_left (by omega)]
  · show List.drop (s.lo + p) (List.take s.hi (s.src f d)) = _
    rw [List.drop_drop]
theorem split_spec {f d : List UInt8} : ∀ (l : List Sp) (p : Nat), okAll f d l → p ≤ total l →
    okAll f d (splitL l p) ∧ splitI l p ≤ (splitL l p).length ∧ body f d ((splitL l p).take (splitI l p)) = (body f d l).take p ∧ body f d ((splitL l p).drop (splitI l p)) = (body f d l).drop p ∧
    (splitL l p).length ≤ l.length + 1 ∧ total ((splitL l p).take (splitI l p)) = p ∧ total (splitL l p) = total l := by
  intro l
  induction l with
  | nil =>
    intro p h hp
    have : p = 0 := by simpa [total] using hp
    subst this
    simp [splitL, splitI, body, total, okAll]
  | cons s r ih =>
    intro p h hp
    have h2 := okAll_cons.1 h
    by_cases h0 : p = 0
    · subst h0
      rw [splitL_zero, splitI_zero]
      exact ⟨h, Nat.zero_le _, by simp [body_nil], by simp, by omega, by simp [total], rfl⟩
    · by_cases hlt : p < s.len
      · rw [splitL_cut s r p h0 hlt, splitI_cut s r p h0 hlt]
        have ht := text_cut f d s p h2.1 (by omega)
        have hlen := text_length h2.1
        have hok1 := h2.1.1
        have hok2 := h2.1.2
        have hsl : s.len = s.hi - s.lo := rfl
        refine ⟨?_, by simp, ?_, ?_, by simp, ?_, ?_⟩
        · rw [okAll_cons, okAll_cons]
          exact ⟨⟨by show s.lo < s.lo + p; omega, by show s.lo + p ≤ (s.src f d).length; omega⟩, ⟨by show s.lo + p < s.hi; omega, hok2⟩, h2.2⟩
        · show body f d [(⟨s.add, s.lo, s.lo + p⟩ : Sp)] = _
          rw [body_cons, body_nil, List.append_nil, body_cons, ht.1, List.take_append_of_le_length (by omega)]
        · show body f d ((⟨s.add, s.lo + p, s.hi⟩ : Sp) :: r) = _
          rw [body_cons, body_cons, ht.2, List.drop_append_of_le_length (by omega)]
        · show total [(⟨s.add, s.lo, s.lo + p⟩ : Sp)] = p
          rw [total_cons, total_nil]
          show s.lo + p - s.lo + 0 = p
          omega
        · rw [total_cons, total_cons, total_cons]
          show s.lo + p - s.lo + (s.hi - (s.lo + p) + total r) = s.len + total r
          omega
      · rw [splitL_step s r p h0 hlt, splitI_step s r p h0 hlt]
        rw [total_cons] at hp
        obtain ⟨i1, i2, i3, i4, i5, i6, i7⟩ := ih (p - s.len) h2.2 (by omega)
        have hlen := text_length h2.1
        refine ⟨okAll_cons.2 ⟨h2.1, i1⟩, by simpa using i2, ?_, ?_, by simpa using i5, ?_, ?_⟩
        · rw [List.take_succ_cons, body_cons, i3, body_cons, List.take_append, List.take_of_length_le (l := s.text f d) (by omega), hlen]
        · rw [List.drop_succ_cons, i4, body_cons, List.drop_append, hlen, List.drop_of_length_le (l := s.text f d) (by omega), List.nil_append]
        · rw [List.take_succ_cons, total_cons, i6]; omega
        · rw [total_cons, total_cons, i7]
theorem split_keep : ∀ (l : List Sp) (i p : Nat), total (l.take i) ≤ p → (splitL l p).take i = l.take i := by
  intro l
  induction l with
  | nil => intro i p _; simp [splitL]
  | cons s r ih =>
    intro i p h
    cases i with
    | zero => simp
    | succ i =>
      rw [List.take_succ_cons, total_cons] at h
      by_cases h0 : p = 0
      · subst h0; rw [splitL_zero]
      · have hlt : ¬ p < s.len := by omega
        rw [splitL_step s r p h0 hlt, List.take_succ_cons, List.take_succ_cons, ih i (p - s.len) (by omega)]
/-- The loop's own way: the pieces ahead are left. -/
theorem split_at_step (l : List Sp) (p k r : Nat) (hk : k < l.length) (hL : splitL l p = l.take k ++ splitL (l.drop k) r) (hI : splitI l p = k + splitI (l.drop k) r) (h0 : r ≠ 0) (h : ¬ r < (l[k]).len) :
    splitL l p = l.take (k + 1) ++ splitL (l.drop (k + 1)) (r - (l[k]).len) ∧ splitI l p = (k + 1) + splitI (l.drop (k + 1)) (r - (l[k]).len) := by
  have e : l.drop k = l[k] :: l.drop (k + 1) := List.drop_eq_getElem_cons hk
  rw [e] at hL hI
  rw [splitL_step _ _ _ h0 h] at hL
  rw [splitI_step _ _ _ h0 h] at hI
  refine ⟨?_, by omega⟩
  rw [hL, List.take_succ_eq_append_getElem hk, List.append_assoc]
  rfl
/-- Bytes behind the second store: what the pieces say stays. -/
theorem ok_more {f d : List UInt8} (e : List UInt8) {s : Sp} (h : s.ok f d) : s.ok f (d ++ e) ∧ s.text f (d ++ e) = s.text f d := by
  unfold Sp.ok Sp.text Sp.src at *
  cases hs : s.add
  · rw [hs] at h
    exact ⟨h, rfl⟩
  · rw [hs] at h
    simp only [if_true] at *
    refine ⟨⟨h.1, by rw [List.length_append]; omega⟩, ?_⟩
    rw [List.take_append_of_le_length h.2]
theorem okAll_more {f d : List UInt8} (e : List UInt8) {l : List Sp} (h : okAll f d l) : okAll f (d ++ e) l ∧ body f (d ++ e) l = body f d l := by
  refine ⟨fun s hs => (ok_more e (h s hs)).1, ?_⟩
  unfold body
  congr 1
  exact List.map_congr_left fun s hs => (ok_more e (h s hs)).2
/-- Does the piece ahead end where the second store does? -/
def grows (l : List Sp) (i n : Nat) : Bool := match i with
  | 0 => false
  | i + 1 => match l[i]? with
    | some s => s.add && decide (s.hi = n)
    | none => false
/-- The pieces behind an Insert of so many bytes, at a piece, where the second store had so many. -/
def insL (l : List Sp) (i n m : Nat) : List Sp := if grows l i n then l.modify (i - 1) (fun s => ⟨s.add, s.lo, s.hi + m⟩) else l.take i ++ [⟨true, n, n + m⟩] ++ l.drop i
theorem ins_spec {f d e : List UInt8} {l : List Sp} (h : okAll f d l) (i : Nat) (hi : i ≤ l.length) (he : e ≠ []) :
    okAll f (d ++ e) (insL l i d.length e.length) ∧ body f (d ++ e) (insL l i d.length e.length) = body f d (l.take i) ++ e ++ body f d (l.drop i) ∧ (insL l i d.length e.length).length ≤ l.length + 1 ∧
    total (insL l i d.length e.length) = total l + e.length := by
  have hpos : 0 < e.length := List.length_pos_iff.2 he
  have hsplit : total l = total (l.take i) + total (l.drop i) := by rw [← total_append, List.take_append_drop]
  unfold insL
  by_cases hg : grows l i d.length = true
  · rw [if_pos hg]
    cases i with
    | zero => simp [grows] at hg
    | succ i =>
      have hil : i < l.length := by omega
      have hg2 : (match l[i]? with | some s => s.add && decide (s.hi = d.length) | none => false) = true := hg
      rw [List.getElem?_eq_getElem hil] at hg2
      simp only [Bool.and_eq_true, decide_eq_true_eq] at hg2
      obtain ⟨ga, gh⟩ := hg2
      have em : l.modify (i + 1 - 1) (fun s => (⟨s.add, s.lo, s.hi + e.length⟩ : Sp)) = l.take i ++ [⟨l[i].add, l[i].lo, l[i].hi + e.length⟩] ++ l.drop (i + 1) := by
        rw [Nat.add_sub_cancel, List.modify_eq_take_cons_drop hil]
        simp
      have hs := h _ (List.getElem_mem hil)
      have ok1 := okAll_more e (okAll_take h i)
      have ok2 := okAll_more e (okAll_drop h (i + 1))
      have hsrc : ∀ (x : List UInt8), (l[i]).src f x = x := by intro x; unfold Sp.src; rw [ga]; rfl
      have hs1 := hs.1
      have hs2 := hs.2
      rw [hsrc] at hs2
      have hnew : (⟨l[i].add, l[i].lo, l[i].hi + e.length⟩ : Sp).text f (d ++ e) = (l[i]).text f d ++ e := by
        unfold Sp.text
        show List.drop l[i].lo (List.take (l[i].hi + e.length) ((l[i]).src f (d ++ e))) = List.drop l[i].lo (List.take l[i].hi ((l[i]).src f d)) ++ e
        rw [hsrc, hsrc, gh, List.take_of_length_le (by simp), List.take_of_length_le (Nat.le_refl _), List.drop_append_of_le_length (by omega)]
      rw [em]
      refine ⟨?_, ?_, by simp; omega, ?_⟩
      · rw [okAll_append, okAll_append]
        refine ⟨⟨ok1.1, ?_⟩, ok2.1⟩
        intro s hs'
        simp only [List.mem_singleton] at hs'
        subst hs'
        refine ⟨by show l[i].lo < l[i].hi + e.length; omega, ?_⟩
        show l[i].hi + e.length ≤ ((l[i]).src f (d ++ e)).length
        rw [hsrc, List.length_append, gh]
        omega
      · rw [body_append, body_append, ok1.2, ok2.2, body_cons, body_nil, List.append_nil, hnew, body_take_succ f d l i hil]
        simp [List.append_assoc]
      · rw [total_append, total_append, total_cons, total_nil]
        rw [total_take_succ l i hil] at hsplit
        show total (l.take i) + (l[i].hi + e.length - l[i].lo + 0) + total (l.drop (i + 1)) = _
        unfold Sp.len at hsplit
        omega
  · rw [if_neg hg]
    have ok1 := okAll_more e (okAll_take h i)
    have ok2 := okAll_more e (okAll_drop h i)
    have hnew : (⟨true, d.length, d.length + e.length⟩ : Sp).text f (d ++ e) = e := by
      unfold Sp.text Sp.src
      simp only [if_true]
      rw [List.take_of_length_le (by simp), List.drop_left']
      rfl
    refine ⟨?_, ?_, by simp; omega, ?_⟩
    · rw [okAll_append, okAll_append]
      refine ⟨⟨ok1.1, ?_⟩, ok2.1⟩
      intro s hs'
      simp only [List.mem_singleton] at hs'
      subst hs'
      refine ⟨by show d.length < d.length + e.length; omega, ?_⟩
      show d.length + e.length ≤ (d ++ e).length
      rw [List.length_append]
      omega
    · rw [body_append, body_append, ok1.2, ok2.2, body_cons, body_nil, List.append_nil, hnew]
    · rw [total_append, total_append, total_cons, total_nil]
      show total (l.take i) + (d.length + e.length - d.length + 0) + total (l.drop i) = _
      omega
/-- The pieces behind an Insert that is no empty one. -/
def insertL (l : List Sp) (p n m : Nat) : List Sp := insL (splitL l p) (splitI l p) n m
theorem insert_spec {f d e : List UInt8} {l : List Sp} (h : okAll f d l) (p : Nat) (hp : p ≤ total l) (he : e ≠ []) :
    okAll f (d ++ e) (insertL l p d.length e.length) ∧ body f (d ++ e) (insertL l p d.length e.length) = (body f d l).take p ++ e ++ (body f d l).drop p ∧ (insertL l p d.length e.length).length ≤ l.length + 2 ∧
    total (insertL l p d.length e.length) = total l + e.length := by
  obtain ⟨i1, i2, i3, i4, i5, i6, i7⟩ := split_spec l p h hp
  obtain ⟨j1, j2, j3, j4⟩ := ins_spec i1 (splitI l p) i2 he
  unfold insertL
  exact ⟨j1, by rw [j2, i3, i4], by omega, by omega⟩
/-- The pieces behind a Delete that is no empty one. -/
def deleteL (l : List Sp) (p q : Nat) : List Sp := (splitL (splitL l p) q).take (splitI l p) ++ (splitL (splitL l p) q).drop (splitI (splitL l p) q)
theorem delete_spec {f d : List UInt8} {l : List Sp} (h : okAll f d l) (p q : Nat) (hp : p ≤ q) (hq : q ≤ total l) :
    okAll f d (deleteL l p q) ∧ body f d (deleteL l p q) = (body f d l).take p ++ (body f d l).drop q ∧ (deleteL l p q).length ≤ l.length + 2 ∧
    total (deleteL l p q) = total l - (q - p) ∧ splitI l p ≤ (splitL (splitL l p) q).length ∧ splitI (splitL l p) q ≤ (splitL (splitL l p) q).length := by
  obtain ⟨i1, i2, i3, i4, i5, i6, i7⟩ := split_spec l p h (by omega)
  obtain ⟨j1, j2, j3, j4, j5, j6, j7⟩ := split_spec (splitL l p) q i1 (by omega)
  have hk := split_keep (splitL l p) (splitI l p) q (by omega)
  have hle : splitI l p ≤ (splitL (splitL l p) q).length := by
    have h1 := congrArg List.length hk
    rw [List.length_take, List.length_take, Nat.min_eq_left i2] at h1
    omega
  have hbody : body f d (splitL l p) = body f d l := by
    have h1 : body f d (splitL l p) = body f d ((splitL l p).take (splitI l p)) ++ body f d ((splitL l p).drop (splitI l p)) := by rw [← body_append, List.take_append_drop]
    rw [h1, i3, i4, List.take_append_drop]
  have hb : body f d (deleteL l p q) = (body f d l).take p ++ (body f d l).drop q := by
    unfold deleteL
    rw [body_append, hk, i3, j4, hbody]
  have hok : okAll f d (deleteL l p q) := by
    unfold deleteL
    exact okAll_append.2 ⟨okAll_take j1 _, okAll_drop j1 _⟩
  refine ⟨hok, hb, ?_, ?_, hle, j2⟩
  · unfold deleteL
    have hlt : splitI l p ≤ splitI (splitL l p) q := by
      by_cases hc : splitI l p ≤ splitI (splitL l p) q
      · exact hc
      · exfalso
        have hc2 : splitI (splitL l p) q < splitI l p := by omega
        have e1 : total ((splitL (splitL l p) q).take (splitI l p)) = p := by rw [hk, i6]
        have e2 : (splitL (splitL l p) q).take (splitI l p) = (splitL (splitL l p) q).take (splitI (splitL l p) q) ++ ((splitL (splitL l p) q).drop (splitI (splitL l p) q)).take (splitI l p - splitI (splitL l p) q) := by
          rw [← List.take_add]
          congr 1
          omega
        have hrest : okAll f d (((splitL (splitL l p) q).drop (splitI (splitL l p) q)).take (splitI l p - splitI (splitL l p) q)) := okAll_take (okAll_drop j1 _) _
        have e3 := length_le_total hrest
        rw [e2, total_append, j6] at e1
        rw [List.length_take, List.length_drop] at e3
        omega
    rw [List.length_append, List.length_take, List.length_drop]
    omega
  · have h1 := body_length hok
    rw [hb, List.length_append, List.length_take, List.length_drop, body_length h] at h1
    omega
/-- A part of the bytes, piece by piece. -/
theorem slice_step (X t : List UInt8) (p q : Nat) :
    ((X ++ t).take q).drop p = (X.take q).drop p ++ (t.take (min q (X.length + t.length) - X.length)).drop (max p X.length - X.length) := by
  rw [List.take_append, List.drop_append, List.length_take]
  have e1 : List.take (q - X.length) t = List.take (min q (X.length + t.length) - X.length) t := by
    by_cases h : q ≤ X.length + t.length
    · rw [Nat.min_eq_left h]
    · rw [Nat.min_eq_right (by omega), List.take_of_length_le (by omega), List.take_of_length_le (by omega)]
  rw [e1]
  by_cases hq : X.length ≤ q
  · rw [Nat.min_eq_right hq]
    congr 2
    omega
  · have e2 : min q (X.length + t.length) - X.length = 0 := by omega
    rw [e2]
    simp
theorem slice_none (X t : List UInt8) (p q : Nat) (h : ¬ max p X.length < min q (X.length + t.length)) :
    ((X ++ t).take q).drop p = (X.take q).drop p := by
  rw [slice_step, List.drop_of_length_le (l := List.take (min q (X.length + t.length) - X.length) t) (by rw [List.length_take]; omega), List.append_nil]
end Go.Proofs.Ytckgmofgcddnaaa
