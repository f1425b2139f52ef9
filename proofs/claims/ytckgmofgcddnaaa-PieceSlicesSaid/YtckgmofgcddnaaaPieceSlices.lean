/- The law PieceSlices is true for every input. No condition. -/
import Derived.Test.YtckgmofgcddnaaaPieceRun
namespace Go.Proofs.Ytckgmofgcddnaaa
open Go.ChangeShapes Go.WideShapes Go.ChangeAt Go.RowKit
open Go.ChangeMaps (open_string shut_string)

/-- A part is told alike. -/
def cutS (S : ByteArray) (p q : Int) : ByteArray := if rightB S.size p q then S.extract p.toNat q.toNat else ⟨#[]⟩
theorem tslice_any {w : World} {B T X : Nat} {t : Twin} {i c z : Nat} (h : Both w B T X t) (g : t.Good i c z) (hi : i ≤ 1000) (hc : c ≤ 20000) (hz : z ≤ 20000) (p q : Int) :
    Calls Try.prog 27 #[.pointer (some ⟨T, 0, none⟩), .int .i64 p, .int .i64 q] w fun e w' => e = .returned (.string (cutS t.S p q)) ∧ Below w.heap.size w w' := by
  have hN := g.total
  have g3 := g.add; have g4 := g.few; have g5 := g.steps; have g6 := g.put; have g7 := g.len; have g8 := g.first
  cases hr : rightB t.S.size p q
  · refine (slice_out h.1 p q (by rw [hN]; exact hr)).mono ?_
    rintro e w' ⟨rfl, rfl⟩
    exact ⟨by unfold cutS; rw [hr]; rfl, Below.refl _ _⟩
  · have hr2 := hr
    unfold rightB at hr
    simp only [decide_eq_true_eq] at hr
    obtain ⟨k, rfl⟩ := Int.eq_ofNat_of_zero_le hr.1
    obtain ⟨m, rfl⟩ := Int.eq_ofNat_of_zero_le (a := q) (by omega)
    refine (slice_any h.1 k m (by omega) (by omega) (by omega) (by omega) (by omega) (by omega)).mono ?_
    rintro e w' ⟨rfl, hb⟩
    refine ⟨?_, hb⟩
    unfold cutS
    rw [hr2]
    have e1 : cutOf t.f t.d t.l k m = t.S.extract k m := by
      refine ba_same _ _ ?_
      show ((((body t.f.data.toList t.d t.l).take m).drop k).toArray).toList = _
      rw [g.body, List.drop_take]
      simp
    rw [e1]
    rfl
theorem rslice_any {w : World} {B X : Nat} {S : ByteArray} {a n : Nat} (h : Ref w B X S a n) (p q : Int) :
    Calls Try.prog 28 #[.pointer (some ⟨X, 0, none⟩), .int .i64 p, .int .i64 q] w fun e w' => e = .returned (.string (cutS S p q)) ∧ w = w' := by
  cases hr : rightB S.size p q
  · refine (refslice_out h p q hr).mono ?_
    rintro e w' ⟨rfl, rfl⟩
    exact ⟨by unfold cutS; rw [hr]; rfl, rfl⟩
  · have hr2 := hr
    unfold rightB at hr
    simp only [decide_eq_true_eq] at hr
    obtain ⟨k, rfl⟩ := Int.eq_ofNat_of_zero_le hr.1
    obtain ⟨m, rfl⟩ := Int.eq_ofNat_of_zero_le (a := q) (by omega)
    refine (refslice_in h k m (by omega) (by omega)).mono ?_
    rintro e w' ⟨rfl, rfl⟩
    exact ⟨by unfold cutS; rw [hr2]; rfl, rfl⟩
set_option maxRecDepth 100000 in
set_option maxHeartbeats 2000000 in
theorem slices_in (s : ByteArray) (a0 : Option Addr) (c : Nat) (l : List St) (p q : Int) (w : World) (hs : s.size ≤ 20000) (h : Steps w a0 l) (hl : ∀ y ∈ l, y.s.size ≤ 140737488351232) (hm : l.length ≤ maxLen) (hf : fewB l = true) :
    Calls Try.prog 7 #[.string s, .slice a0 l.length c, .int .i64 p, .int .i64 q] w fun e w' => e = .returned (.bool true) ∧ Below w.heap.size w w' := by
  have hfc := few_any a0 c l w h hl hm
  rw [hf] at hfc
  have hl2 : l.length ≤ 200 ∧ sizes l ≤ 20000 := by unfold fewB at hf; simpa using hf
  obtain ⟨hl3, hl4⟩ := hl2
  have HS := Lib.hid h
  have HF := Lib.hid hfc
  have H4 := Lib.hid hl4
  have hn := new_any s w w.heap.size (Nat.le_refl _) (by omega)
  have HN := Lib.hid hn
  unfold maxLen at hm
  clear h hl hf hfc hn hl4
  go_enter Try.func7, Try.ntmps7
  go_wp2_with fail
  go_at_call 23
  refine HF.out.mono ?_
  rintro e w1 ⟨rfl, rfl⟩
  go_wp2_with fail
  go_at_call 25
  refine HN.out.mono ?_
  rintro e w1 ⟨rfl, hT1, hb1⟩
  have hB0 := both_first hT1 hb1
  have hbel0 : Below w.heap.size w (w1.alloc (.cells (refCells s) 48)) := hb1.alloc hb1.size _
  unfold refCells at hB0 hbel0
  have HB0 := Lib.hid hB0
  have HBL := Lib.hid hbel0
  clear hT1 hB0 hbel0
  go_wp2_with fail
  go_loopw [8, 11] (fun r i wr => ∃ k : Nat, k ≤ l.length ∧ r = .bool false ∧ i = .int .i64 k ∧ Both wr w.heap.size w.heap.size w1.heap.size (twinAt s l k) ∧ Below w.heap.size w wr) (fun _ i _ => l.length - (intOf i).toNat)
  case atStart => exact ⟨0, Nat.zero_le _, rfl, rfl, HB0.out, HBL.out⟩
  case round =>
    obtain ⟨k, hk, rfl, rfl, hB, hbel⟩ := hrel
    have hg := twinAt_good s l k
    by_cases hlt : k < l.length
    · obtain ⟨b, off, rfl, hb, hc⟩ := (HS.out.below hbel) (by omega)
      obtain ⟨c0, c1, c2, c3⟩ := hc k l[k] (List.getElem?_eq_getElem hlt)
      have hsz := sizes_mem l _ (List.getElem_mem hlt)
      have h4 := H4.out
      have hd := do_any hB hg (by omega) h4 hs l[k].k l[k].a l[k].b l[k].s (by omega)
      rw [← twinAt_succ s l k hlt] at hd
      have HD := Lib.hid hd
      generalize l[k].k = yk at *
      generalize l[k].a = ya at *
      generalize l[k].b = yb at *
      generalize l[k].s = ys at *
      clear hd hc hsz h4 hg hB
      go_wp2_with fail
      go_at_call 26
      refine HD.out.mono ?_
      rintro e w2 ⟨rfl, hB2, hb2⟩
      go_wp2_with fail
      go_roundw
      case rel => exact ⟨k + 1, by omega, rfl, by go_num, hB2, hbel.trans hb2⟩
      case measure => simp [intOf]; omega
    · have hts := tslice_any hB hg (by omega) H4.out hs p q
      have HTS := Lib.hid hts
      have HBB := Lib.hid hB
      clear hts hB hg
      go_wp2_with fail
      go_at_call 27
      refine HTS.out.mono ?_
      rintro e w2 ⟨rfl, hb2⟩
      go_wp2_with fail
      go_at_call 28
      refine (rslice_any (HBB.out.2.below hb2) p q).mono ?_
      rintro e w3 ⟨rfl, rfl⟩
      go_wp2_with fail
      go_at_call 24
      refine (lives_any _).mono ?_
      rintro e w4 ⟨rfl, hb4⟩
      go_wp2_with fail
      go_ret
      have hA := hbel.trans (hb2.mono hbel.size)
      exact ⟨rfl, hA.trans (hb4.mono hA.size)⟩
set_option maxRecDepth 100000 in
set_option maxHeartbeats 2000000 in
theorem slices_out (s : ByteArray) (a0 : Option Addr) (c : Nat) (l : List St) (p q : Int) (w : World) (hs : s.size ≤ 140737488351232) (h : Steps w a0 l) (hl : ∀ y ∈ l, y.s.size ≤ 140737488351232) (hm : l.length ≤ maxLen) (ho : fewB l = false ∨ 20000 < s.size) :
    Calls Try.prog 7 #[.string s, .slice a0 l.length c, .int .i64 p, .int .i64 q] w fun e w' => e = .returned (.bool true) ∧ Below w.heap.size w w' := by
  have hfc := few_any a0 c l w h hl hm
  clear h hl hm
  cases hf : fewB l
  · rw [hf] at hfc
    have HF := Lib.hid hfc
    clear hfc ho hf
    go_enter Try.func7, Try.ntmps7
    go_wp2_with fail
    go_at_call 23
    refine HF.out.mono ?_
    rintro e w1 ⟨rfl, rfl⟩
    go_wp2_with fail
    go_at_call 24
    refine (lives_any _).mono ?_
    rintro e w4 ⟨rfl, hb4⟩
    go_wp2_with fail
    go_ret
    exact ⟨rfl, hb4⟩
  · have ho2 : 20000 < s.size := ho.elim (fun h => by rw [hf] at h; cases h) id
    rw [hf] at hfc
    have HF := Lib.hid hfc
    clear hfc ho hf
    go_enter Try.func7, Try.ntmps7
    go_wp2_with fail
    go_at_call 23
    refine HF.out.mono ?_
    rintro e w1 ⟨rfl, rfl⟩
    go_wp2_with fail
    go_at_call 24
    refine (lives_any _).mono ?_
    rintro e w4 ⟨rfl, hb4⟩
    go_wp2_with fail
    go_ret
    exact ⟨rfl, hb4⟩
theorem lawslices_any (s : ByteArray) (a0 : Option Addr) (c : Nat) (l : List St) (p q : Int) (w : World) (hs : s.size ≤ 140737488351232) (h : Steps w a0 l) (hl : ∀ y ∈ l, y.s.size ≤ 140737488351232) (hm : l.length ≤ maxLen) :
    Calls Try.prog 7 #[.string s, .slice a0 l.length c, .int .i64 p, .int .i64 q] w fun e w' => e = .returned (.bool true) ∧ Below w.heap.size w w' := by
  by_cases ho : fewB l = false ∨ 20000 < s.size
  · exact slices_out s a0 c l p q w hs h hl hm ho
  · have h1 : fewB l = true := by
      cases hf : fewB l
      · exact absurd (Or.inl hf) ho
      · rfl
    exact slices_in s a0 c l p q w (by have : ¬ 20000 < s.size := fun h => ho (Or.inr h); omega) h hl hm h1

theorem Try.own : ownKnob Try.prog.godebug = none := by kernel_rfl
theorem Try.laidOut : laidOutB Try.prog = true := by kernel_rfl
set_option maxRecDepth 100000 in
theorem pieceSlices_lifted (os : Os) (started : os.Started) (H : Type) (enc : TypeId × Value → H) :
    ReturnsInHanded {} Try.checked os 7 .any (Rows.pieceSlicesSpec.pre6 enc Try.prog Try.f7 Rows.pieceSlicesRow.domain false) (Rows.pieceSlicesSpec.post enc Try.prog Try.f7 false true false false) := by
  refine returnsInHanded_of_change_sized (C := Try.checked) Try.own started (by kernel_rfl) Try.func7
    (ChangeSpec.witness6 (enc := enc) (C := Try.checked) false ⟨#[], #[.string ⟨#[]⟩, .slice none 0 0, .int .i64 0, .int .i64 0], []⟩ 8 (by kernel_rfl) (by kernel_rfl) (by kernel_rfl) (by kernel_rfl)) ?_
  intro W base args ds gs before hval0 hW hcnd hsz0 _
  have hval : ∀ (j : Nat) t v, Try.f7.params[j]? = some t → args[j]? = some v → Value.okWide Try.prog W .any base t v := hval0
  have hsz : (DataW.weightsEach Try.prog (Try.f7.params.toList ++ Rows.pieceSlicesSpec.plain.varTypes Try.prog) (ds ++ gs)).all (· ≤ reachBytes) = true := hsz0
  have hW' := hW
  obtain ⟨p, q, hA0, hV, rfl, hfz, hnd⟩ := hW
  have hA : DataW.TrodAll enc Try.prog W 0 (fun _ => true) true Try.f7.params.toList args.toList ds p := hA0
  rw [Try.params7] at hA hval hsz
  obtain ⟨v0, v1, v2, v3, d0, d1, d2, d3, p0, p1, p2, p3, rfl, rfl, rfl, h0, h1, h2, h3⟩ := trodAll_four hA
  obtain ⟨rfl, rfl⟩ := trodVars_none hV
  obtain ⟨s, rfl, rfl, rfl, hs⟩ := open_string Try.underlying9 (hval 0 9 v0 rfl rfl) h0
  obtain ⟨n, rfl, rfl, rfl, wn⟩ := open_int Try.underlying3 (hval 2 3 v2 rfl rfl) h2
  obtain ⟨m, rfl, rfl, rfl, wm⟩ := open_int Try.underlying3 (hval 3 3 v3 rfl rfl) h3
  clear hA0
  simp only [List.append_nil] at hW'
  have hlt : ∀ x ∈ p1, x.block < W.heap.size := fun x hx => hW'.lt x (by simp [hx])
  obtain ⟨a0, len, cap, rfl⟩ := okWide_slice Try.underlying42 (hval 1 42 v1 rfl rfl)
  have h1k := h1
  have hs2 : s.size ≤ 140737488351232 := by
    have := sized_string hsz (j := 0) (t := 9) rfl rfl
    simpa [reachBytes] using this
  have fin : ∀ (e : Ending) (W' : World), (e = .returned (.bool true) ∧ Below W.heap.size W W') → ∃ v, e = .returned v ∧ Rows.pieceSlicesSpec.post enc Try.prog Try.f7 false true false false W #[.string s, .slice a0 len cap, .int .i64 n, .int .i64 m] v W' := by
    rintro e W' ⟨rfl, hb⟩
    exact ⟨_, rfl, _, _, _, [], _, [], hW', trodAll_mk1 (shut_bool Try.underlying4 true), trodAll_mk4 (shut_string Try.underlying9 hs) (Below.trod Try.laidOut (by kernel_rfl) (of_decide_eq_true (by kernel_rfl)) h1k hb hlt) (shut_int Try.underlying3 wn) (shut_int Try.underlying3 wm), rfl, hb.frame _, fun h => by cases h⟩
  obtain ⟨fuel, hf⟩ := h1
  rcases open_steps hf with ⟨hcs, hx⟩ | ⟨a, cap', l, elems, rest, hcs, hl, hm, hx, hcell, hws⟩
  · simp [Value.cells] at hcs
    obtain ⟨rfl, rfl, rfl⟩ := hcs
    exact (lawslices_any s none 0 [] n m W hs2 (steps_none W none) (by simp) (by simp)).mono fin
  · simp [Value.cells] at hcs
    obtain ⟨rfl, rfl, rfl⟩ := hcs
    have hx' : d1 = .slice elems rest := hx
    subst hx'
    refine (lawslices_any s (some a) cap l n m W hs2 (steps_some hcell) ?_ (by omega)).mono fin
    intro y hy
    obtain ⟨j, hj⟩ := List.getElem?_of_mem hy
    obtain ⟨e0, e1, e2, hmem⟩ := hws j y hj
    have := step_sized hsz (j := 1) rfl rfl hmem
    rw [ba_len] at this
    simpa [reachBytes] using this

theorem pieceSlices_holds : Rows.PieceSlicesSaid :=
  OpenClaim.holds_of_wide 7 Try.f7 rfl rfl rfl rfl rfl rfl rfl ⟨rfl, rfl, rfl, rfl, rfl⟩ rfl rfl rfl rfl rfl (by kernel_rfl) Try.func7 (by kernel_rfl)
    (of_decide_eq_true (by kernel_rfl)) (by unfold Func.isWrapper; first | (rw [if_pos (by decide +kernel)]; kernel_rfl) | (rw [if_neg (by decide +kernel)]; exact ⟨rfl, rfl⟩))
    (fun os started H enc _ => pieceSlices_lifted os started H enc)
#print axioms pieceSlices_holds
end Go.Proofs.Ytckgmofgcddnaaa
