/- What the functions of package piece come to, each once: Slice, String, Compact. -/
import Derived.Test.YtckgmofgcddnaaaPieceWalks4
namespace Go.Proofs.Ytckgmofgcddnaaa
open Go.RowKit

set_option maxHeartbeats 400000 in
theorem slice_nil (p q : Int) (w : World) :
    Calls Try.prog 27 #[.pointer none, .int .i64 p, .int .i64 q] w fun e w' => e = .returned (.string ⟨#[]⟩) ∧ w = w' := by
  go_enter Try.func27, Try.ntmps27
  go_wp2
  go_ret
  exact ⟨rfl, rfl⟩
set_option maxHeartbeats 400000 in
theorem slice_out {w : World} {B T : Nat} {f : ByteArray} {d : List UInt8} {l : List Sp} (h : Tab w B T f d l) (p q : Int) (hr : rightB (total l) p q = false) :
    Calls Try.prog 27 #[.pointer (some ⟨T, 0, none⟩), .int .i64 p, .int .i64 q] w fun e w' => e = .returned (.string ⟨#[]⟩) ∧ w = w' := by
  have hc := right_any h p q
  rw [hr] at hc
  have HC := Lib.hid hc
  clear hc h hr
  go_enter Try.func27, Try.ntmps27
  go_wp2_with (go_at_call 43; refine HC.out.mono ?_; rintro e w1 ⟨rfl, rfl⟩)
  go_ret
  exact ⟨rfl, rfl⟩
/-- Every piece that lay somewhere lies there still. -/
def Keeps67 (w w' : World) : Prop := ∀ (k : Nat) (cs : Array Value), w.heap[k]? = some (.cells cs 67 (0, 0)) → w'.heap[k]? = some (.cells cs 67 (0, 0))
theorem copyCheck_kept (B b : Nat) (bs : List Value) (w : World) (h : Lib.IsBuilder 72 5 B b bs w) :
    Calls Try.prog 53 #[.pointer (some ⟨b, 0, none⟩)] w fun e w' => e = .returned (.tuple #[]) ∧ (Lib.BuilderAt 72 5 B b (.pointer (some ⟨b, 0, none⟩)) bs w' ∧ Below B w w' ∧ Keeps67 w w') := by
  rcases h with h | h
  · refine (copyCheck_fresh b w h.cell0 h.shape h.frozen0).mono ?_
    rintro e w' ⟨rfl, rfl⟩
    refine ⟨rfl, h.used _, (Below.refl B w).setCell (p := ⟨b, 0, none⟩) h.1 _, fun k cs hk => ?_⟩
    obtain ⟨_, v, hbk, _⟩ := h
    rw [heap_setCell_other w ⟨b, 0, none⟩ k _ (fun e => by have e' : k = b := e; subst e'; rw [hbk] at hk; simp at hk)]
    exact hk
  · refine (copyCheck_used b w h.cell0).mono ?_
    rintro e w' ⟨rfl, rfl⟩
    exact ⟨rfl, h, Below.refl B _, fun _ _ hk => hk⟩
set_option maxHeartbeats 2000000 in
theorem writeString_kept (B b : Nat) (bs : List Value) (s : ByteArray) (w : World) (h : Lib.IsBuilder 72 5 B b bs w) (hlen : bs.length + s.size ≤ 140737488355328) (hBw : B ≤ w.heap.size) :
    Calls Try.prog 45 #[.pointer (some ⟨b, 0, none⟩), .string s] w fun e w' => e = .returned (.tuple #[.int .i64 s.size, .nilIface]) ∧ (Lib.BuilderAt 72 5 B b (.pointer (some ⟨b, 0, none⟩)) (bs ++ Lib.strCells s) w' ∧ Below B w w' ∧ Keeps67 w w') := by
  obtain ⟨i0, hi, hz0, hz1, hz2⟩ := info_parts info5
  go_enter Try.func45, Try.ntmps45
  go_wp2_with (go_at_call 53; refine (copyCheck_kept B b bs _ h).mono ?_)
  rintro e w1 ⟨rfl, h1, hb1, hk1⟩
  obtain ⟨hB, v, hbk, hown, hne⟩ := h1
  have c0 : w1.cell? ⟨b, 0, none⟩ = some (.pointer (some ⟨b, 0, none⟩)) := by rw [Lib.cell_of_heap hbk]; rfl
  have c1 : w1.cell? ⟨b, 1, none⟩ = some v := by rw [Lib.cell_of_heap hbk]; rfl
  go_wp2_with (at_builtin; refine Lib.wpList_append_own_string _ rfl _ _ 38 9 rfl B 5 i0 Try.underlying38 Try.underlying9 hi hz0 hz1 hz2 _ _ _ rfl hown s rfl ?c3 ?c4 ?c5 ?_)
  case c3 => unfold maxLen; omega
  case c4 => omega
  case c5 => have := hb1.size; omega
  intro v' w2 hown' hgrow _
  have hlt : b < w1.heap.size := by
    rcases Nat.lt_or_ge b w1.heap.size with h' | h'
    · exact h'
    · simp [Array.getElem?_eq_none h'] at hbk
  have hb2 : w2.heap[b]? = some (.cells #[.pointer (some ⟨b, 0, none⟩), v] 72 (0, 0)) := by
    rw [hgrow.block b hlt (fun e => hne e.symm)]
    exact hbk
  have d0 : w2.cell? ⟨b, 0, none⟩ = some (.pointer (some ⟨b, 0, none⟩)) := by rw [Lib.cell_of_heap hb2]; rfl
  have d1 : w2.cell? ⟨b, 1, none⟩ = some v := by rw [Lib.cell_of_heap hb2]; rfl
  have f1 : w2.frozen? ⟨b, 1, none⟩ = false := Lib.frozen_of_heap hb2 1
  obtain ⟨ao, n', cap, rfl⟩ : ∃ ao n' cap, v' = .slice ao n' cap := by
    rcases hown'.2 with ⟨hv, _⟩ | ⟨g, cap, cur, hv, _⟩
    · exact ⟨_, _, _, hv⟩
    · exact ⟨_, _, _, hv⟩
  go_wp2
  go_ret2
  refine ⟨rfl, ?_, ?_, ?_⟩
  · exact Lib.BuilderAt.put (T := 72) (e := 5) hB hb2 (bs' := bs ++ Lib.strCells s) (by simpa [Lib.strCells_length] using hown') (by decide)
  · exact (hb1.grown hgrow (by have := hb1.size; omega) (fun k hk => (hown.lt k hk).1)).setCell (p := ⟨b, 1, none⟩) hB _
  · intro k cs hk
    have h2 := hk1 k cs hk
    have h3 : w2.heap[k]? = some (.cells cs 67 (0, 0)) := by
      rw [hgrow.block k (Array.getElem?_eq_some_iff.1 h2).1 (fun e => Lib.ownBlock_ne hown h2 (by decide) e.symm)]
      exact h2
    rw [heap_setCell_other w2 ⟨b, 1, none⟩ k _ (fun e => by have e' : k = b := e; subst e'; rw [hb2] at h3; simp at h3)]
    exact h3
theorem isBuilder_below {B b : Nat} {bs : List Value} {w w' : World} (h : Lib.IsBuilder 72 5 B b bs w) (hb : Below w.heap.size w w') : Lib.IsBuilder 72 5 B b bs w' := by
  have go : ∀ p, Lib.BuilderAt 72 5 B b p bs w → Lib.BuilderAt 72 5 B b p bs w' := by
    rintro p ⟨hB, v, hbk, hown, hne⟩
    exact ⟨hB, v, by rw [hb.block b (Array.getElem?_eq_some_iff.1 hbk).1]; exact hbk, owns_below hown hb, hne⟩
  rcases h with h | h
  · exact Or.inl (go _ h)
  · exact Or.inr (go _ h)
theorem spText_size (f : ByteArray) (d : List UInt8) (s : Sp) (h : s.ok f.data.toList d) : (spText f d s).size = s.len := text_length h
theorem box_facts {w1 : World} {b : Nat} {s : Sp} (h : w1.heap[b]? = some (.cells #[.bool s.add, .int .i64 s.lo, .int .i64 s.hi] 67 (0, 0))) :
    w1.cell? ⟨b, 0, none⟩ = some (.bool s.add) ∧ w1.cell? ⟨b, 1, none⟩ = some (.int .i64 s.lo) ∧ w1.cell? ⟨b, 2, none⟩ = some (.int .i64 s.hi) :=
  ⟨by rw [Lib.cell_of_heap h]; rfl, by rw [Lib.cell_of_heap h]; rfl, by rw [Lib.cell_of_heap h]; rfl⟩
theorem box_made {w w1 : World} {o : Obj} (h : Below (w.alloc o).heap.size (w.alloc o) w1) : w1.heap[w.heap.size]? = some o := by
  rw [h.block w.heap.size (by simp), heap_alloc_new]
/-- A part of the bytes of the first pieces. -/
def partOf (f : ByteArray) (d : List UInt8) (l : List Sp) (p q k : Nat) : List UInt8 := ((body f.data.toList d (l.take k)).take q).drop p
theorem partOf_length (f : ByteArray) (d : List UInt8) (l : List Sp) (h : okAll f.data.toList d l) (p q k : Nat) : (partOf f d l p q k).length ≤ total (l.take k) := by
  unfold partOf
  rw [List.length_drop, List.length_take, body_length (okAll_take h k)]
  omega
theorem partOf_next {f : ByteArray} {d : List UInt8} {l : List Sp} (h : okAll f.data.toList d l) (p q k : Nat) (hk : k < l.length) :
    partOf f d l p q (k + 1) = partOf f d l p q k ++ ((l[k].text f.data.toList d).take (min q (total (l.take k) + l[k].len) - total (l.take k))).drop (max p (total (l.take k)) - total (l.take k)) := by
  unfold partOf
  rw [body_take_succ _ _ _ _ hk, slice_step, body_length (okAll_take h k), text_length (h _ (List.getElem_mem hk))]
theorem partOf_skip {f : ByteArray} {d : List UInt8} {l : List Sp} (h : okAll f.data.toList d l) (p q k : Nat) (hk : k < l.length) (hc : ¬ max p (total (l.take k)) < min q (total (l.take k) + l[k].len)) :
    partOf f d l p q (k + 1) = partOf f d l p q k := by
  unfold partOf
  rw [body_take_succ _ _ _ _ hk, slice_none]
  rw [body_length (okAll_take h k), text_length (h _ (List.getElem_mem hk))]
  exact hc
theorem slice_cells {f : ByteArray} {d : List UInt8} {l : List Sp} (h : okAll f.data.toList d l) (p q k m : Nat) (hk : k < l.length) (s : Sp) (hs : s = l[k]) (hm : m = total (l.take k)) (t : ByteArray) (ht : t = spText f d s) :
    Lib.byteCells (partOf f d l p q k) ++ Lib.strCells (t.extract ((max (p : Int) (m : Int)).toNat - m) ((min (q : Int) ((m : Int) + (s.len : Int))).toNat - m)) = Lib.byteCells (partOf f d l p q (k + 1)) := by
  rw [partOf_next h p q k hk]
  have e1 : (max (p : Int) (m : Int)).toNat - m = max p m - m := by omega
  have e2 : (min (q : Int) ((m : Int) + (s.len : Int))).toNat - m = min q (m + s.len) - m := by omega
  have e3 : Lib.strCells (t.extract (max p m - m) (min q (m + s.len) - m)) = Lib.byteCells (((l[k].text f.data.toList d).take (min q (total (l.take k) + l[k].len) - total (l.take k))).drop (max p (total (l.take k)) - total (l.take k))) := by
    subst hs; subst hm; subst ht
    unfold Lib.strCells Lib.byteCells
    rw [Lib.extract_data, List.drop_take]
    rfl
  rw [e1, e2, e3]
  unfold Lib.byteCells
  rw [List.map_append]
set_option maxHeartbeats 1000000 in
theorem slice_some {w : World} {B T g c : Nat} {f : ByteArray} {d : List UInt8} {l : List Sp} {sv : Value} (h : TabV w B T f d l sv (.slice (some ⟨g, 0, none⟩) l.length c)) (p q : Nat) (hpq : p ≤ q) (hq : q ≤ total l)
    (hlen : l.length ≤ 900000) (hf : f.size ≤ 140737488355328) (hd : d.length ≤ 140737488355328) (ht : total l ≤ 140737488355328) :
    Calls Try.prog 27 #[.pointer (some ⟨T, 0, none⟩), .int .i64 p, .int .i64 q] w fun e w' => e = .returned (.string ⟨(partOf f d l p q l.length).toArray⟩) ∧ Below w.heap.size w w' := by
  have hc := right_any ⟨_, _, h⟩ (p : Int) (q : Int)
  rw [show rightB (total l) (p : Int) (q : Int) = true from by unfold rightB; simp; omega] at hc
  obtain ⟨c0, c1, c2, c3, cf⟩ := h.cells
  obtain ⟨_, hg1, hg2, hlc, hcm, _, _⟩ := h.row.at
  have hTl := h.lt
  have HC := Lib.hid hc
  have HH := Lib.hid h
  clear hc h c0 c1 c3 cf
  have hbl := Lib.fresh_isBuilder 72 5 w
  have HB := Lib.hid hbl
  clear hbl
  have c2' : (w.alloc (.cells #[.pointer none, .slice none 0 0] 72)).cell? ⟨T, 2, none⟩ = some (.slice (some ⟨g, 0, none⟩) l.length c) := (((Below.refl _ _).alloc (Nat.le_refl _) _).cell (p := ⟨T, 2, none⟩) hTl).trans c2
  go_enter Try.func27, Try.ntmps27
  go_wp2_with (go_at_call 43; refine HC.out.mono ?_; rintro e w1 ⟨rfl, rfl⟩)
  go_loopw [8, 27] (fun x i wr => ∃ k : Nat, k ≤ l.length ∧ i = .int .i64 k ∧ x = .int .i64 (total (l.take k) : Nat) ∧ Lib.IsBuilder 72 5 w.heap.size w.heap.size (Lib.byteCells (partOf f d l p q k)) wr ∧ Below w.heap.size w wr) (fun _ i _ => l.length - (intOf i).toNat)
  case atStart => exact ⟨0, Nat.zero_le _, rfl, rfl, by simpa [partOf, body, Lib.byteCells] using HB.out, (Below.refl _ _).alloc (Nat.le_refl _) _⟩
  case round =>
    obtain ⟨k, hk, rfl, rfl, hbu, hbel⟩ := hrel
    by_cases hlt : k < l.length
    · obtain ⟨p0, p1, p2, p3⟩ := (HH.out.row.below hbel).piece k hlt
      have hok := HH.out.ok _ (List.getElem_mem hlt)
      have hlo := hok.1
      have hts := total_take_succ l k hlt
      have htle := total_take_le l (k + 1)
      have hhi : l[k].hi ≤ 140737488355328 := by
        have h2 := hok.2
        unfold Sp.src at h2
        have : f.data.toList.length = f.size := by rw [Array.length_toList]; rfl
        split at h2 <;> omega
      obtain ⟨s, hs⟩ : ∃ s, s = l[k] := ⟨_, rfl⟩
      rw [← hs] at p0 p1 p2 hlo hhi hok hts
      have HS := Lib.hid hs
      have HTS := Lib.hid hts
      have HOK := Lib.hid hok
      have hsz := size_any s
      have HZ := Lib.hid hsz
      have hat1 : total (l.take k) + s.len ≤ 140737488355328 := by omega
      obtain ⟨m, hm⟩ : ∃ m, m = total (l.take k) := ⟨_, rfl⟩
      rw [← hm] at hat1 ⊢
      have HM := Lib.hid hm
      have HBU := Lib.hid hbu
      clear hs hts hok hsz c2 c2' hm hbu p3
      by_cases hcut : max p m < min q (m + s.len)
      · go_wp2_with (go_at_call 44; refine (HZ.out _ (by omega) (by omega)).mono ?_; rintro e w1 ⟨rfl, hb1⟩; obtain ⟨q0, q1, q2⟩ := box_facts (box_made hb1))
        have htx := text_any (Tab.below ⟨_, _, HH.out⟩ ((hbel.alloc hbel.size _).trans (hb1.mono (by have := hbel.size; simp; omega)))) s HOK.out
        have HTX := Lib.hid htx
        clear htx
        have hss := spText_size f d s HOK.out
        obtain ⟨t, ht0⟩ : ∃ t, t = spText f d s := ⟨_, rfl⟩
        rw [← ht0] at hss
        have hss1 : s.len ≤ t.size := by omega
        have hss2 : t.size ≤ s.len := by omega
        have HT0 := Lib.hid ht0
        have HTX2 : Hid _ := HTX
        rw [← ht0] at HTX2
        clear ht0 hss HTX
        go_wp2_with (go_at_call 46; refine HTX2.out.mono ?_; rintro e w2 ⟨rfl, hb2⟩)
        have hb12 : Below wr.heap.size wr w2 := ((Below.refl _ _).alloc (Nat.le_refl _) _).trans ((hb1.trans (hb2.mono hb1.size)).mono (by simp))
        have hbox : w2.heap[wr.heap.size]? = some (.cells #[.bool s.add, .int .i64 s.lo, .int .i64 s.hi] 67 (0, 0)) := by
          rw [hb2.block wr.heap.size (by have := hb1.size; simp at this; omega)]
          exact box_made hb1
        have HBX := Lib.hid hbox
        have HB2 := Lib.hid (isBuilder_below HBU.out hb12)
        have hpl := partOf_length f d l HH.out.ok p q k
        rw [← HM.out] at hpl
        have hwl : w.heap.size ≤ w2.heap.size := by have := hbel.size; have := hb12.size; omega
        have hws := fun (u : ByteArray) (hu : u.size ≤ t.size) => writeString_kept w.heap.size w.heap.size (Lib.byteCells (partOf f d l p q k)) u w2 HB2.out (by rw [Lib.byteCells_length]; omega) hwl
        have HWS := Lib.hid hws
        clear hws hbox hpl q0 q1 q2
        go_wp2_with (go_at_call 45; refine (HWS.out _ (by rw [ByteArray.size_extract]; omega)).mono ?_; rintro e w3 ⟨rfl, hbu3, hb3, hk3⟩; obtain ⟨q0, q1, q2⟩ := box_facts (hk3 _ _ HBX.out))
        go_wp2_with (go_at_call 44; refine (HZ.out _ (by omega) (by omega)).mono ?_; rintro e w4 ⟨rfl, hb4⟩)
        have hcells := slice_cells HH.out.ok p q k m hlt s HS.out HM.out t HT0.out
        go_roundw
        case rel =>
          refine ⟨k + 1, by omega, by go_num, by rw [HTS.out, ← HM.out]; go_num, ?_, ?_⟩
          · rw [← hcells]
            exact isBuilder_below (Or.inr hbu3) hb4
          · have h2 := hbel.trans (hb12.mono hbel.size)
            have h3 := h2.trans hb3
            exact h3.trans (hb4.mono h3.size)
        case measure => simp [intOf]; omega
      · go_wp2_with fail
        refine (HZ.out _ (by omega) (by omega)).mono ?_
        rintro e w1 ⟨rfl, hb1⟩
        obtain ⟨q0, q1, q2⟩ := box_facts (box_made hb1)
        go_wp2_with (go_at_call 44; refine (HZ.out _ (by omega) (by omega)).mono ?_; rintro e w2 ⟨rfl, hb2⟩)
        have hskip := partOf_skip HH.out.ok p q k hlt (by rw [← HM.out, ← HS.out]; exact hcut)
        go_roundw
        case rel =>
          have hb12 : Below wr.heap.size wr w2 := ((Below.refl _ _).alloc (Nat.le_refl _) _).trans ((hb1.trans (hb2.mono hb1.size)).mono (by simp))
          refine ⟨k + 1, by omega, by go_num, by rw [HTS.out, ← HM.out]; go_num, ?_, hbel.trans (hb12.mono hbel.size)⟩
          rw [hskip]
          exact isBuilder_below HBU.out hb12
        case measure => simp [intOf]; omega
    · have hk2 : k = l.length := by omega
      subst hk2
      have HBU := Lib.hid hbu
      have hst := fun (wx : World) (hb : Lib.IsBuilder 72 5 w.heap.size w.heap.size (Lib.byteCells (partOf f d l p q l.length)) wx) (hs : w.heap.size ≤ wx.heap.size) => Try.Builder_String_any w.heap.size w.heap.size (partOf f d l p q l.length) wx hb hs
      have HST := Lib.hid hst
      clear hbu hst c2 c2'
      go_wp2_with (go_at_call 47; refine (HST.out _ HBU.out hbel.size).mono ?_; rintro e w1 ⟨rfl, hb1⟩)
      go_ret
      exact ⟨rfl, hbel.trans hb1⟩
end Go.Proofs.Ytckgmofgcddnaaa
