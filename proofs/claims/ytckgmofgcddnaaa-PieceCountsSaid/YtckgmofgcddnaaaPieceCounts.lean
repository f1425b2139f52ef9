/- The law PieceCounts is true for every input. No condition. -/
import Derived.Test.YtckgmofgcddnaaaPieceRun
namespace Go.Proofs.Ytckgmofgcddnaaa
open Go.ChangeShapes Go.WideShapes Go.ChangeAt Go.RowKit
open Go.ChangeMaps (open_string shut_string)

/-- No piece, no byte. -/
theorem twin_empty {t : Twin} {i c z : Nat} (g : t.Good i c z) : (((t.l.length : Nat) : Int) == 0) = t.S.toList.isEmpty := by
  have hN := g.total
  have h0 := total_zero g.ok
  rw [ByteArray.toList_eq]
  have hl := ba_len t.S
  rw [hN] at h0
  rw [Bool.eq_iff_iff]
  simp only [beq_iff_eq, List.isEmpty_iff]
  rw [← List.length_eq_zero_iff, hl, h0, ← List.length_eq_zero_iff]
  omega
set_option maxRecDepth 100000 in
set_option maxHeartbeats 2000000 in
theorem counts_in (s : ByteArray) (a0 : Option Addr) (c : Nat) (l : List St) (w : World) (hs : s.size ≤ 20000) (h : Steps w a0 l) (hl : ∀ y ∈ l, y.s.size ≤ 140737488351232) (hm : l.length ≤ maxLen) (hf : fewB l = true) :
    Calls Try.prog 8 #[.string s, .slice a0 l.length c] w fun e w' => e = .returned (.bool true) ∧ Below w.heap.size w w' := by
  have hfc := few_any a0 c l w h hl hm
  rw [hf] at hfc
  have hl2 : l.length ≤ 200 ∧ sizes l ≤ 20000 := by unfold fewB at hf; simpa using hf
  obtain ⟨hl3, hl4⟩ := hl2
  have HS := Lib.hid h
  have HF := Lib.hid hfc
  have H4 := Lib.hid hl4
  have hn := new_any s w w.heap.size (Nat.le_refl _) (by omega)
  have HN := Lib.hid hn
  unfold maxLen at hm
  clear h hl hf hfc hn hl4
  go_enter Try.func8, Try.ntmps8
  go_wp2_with fail
  go_at_call 23
  refine HF.out.mono ?_
  rintro e w1 ⟨rfl, rfl⟩
  go_wp2_with fail
  go_at_call 25
  refine HN.out.mono ?_
  rintro e w1 ⟨rfl, hT1, hb1⟩
  have hB0 := both_first hT1 hb1
  have hbel0 : Below w.heap.size w (w1.alloc (.cells (refCells s) 48)) := hb1.alloc hb1.size _
  unfold refCells at hB0 hbel0
  have HB0 := Lib.hid hB0
  have HBL := Lib.hid hbel0
  clear hT1 hB0 hbel0
  go_wp2_with fail
  go_loopw [4, 7, 8] (fun r i n wr => ∃ k : Nat, k ≤ l.length + 1 ∧ r = .bool false ∧ i = .int .i64 k ∧ Both wr w.heap.size w.heap.size w1.heap.size (twinAt s l k) ∧ Below w.heap.size w wr) (fun _ i _ _ => l.length + 1 - (intOf i).toNat)
  case atStart => exact ⟨0, Nat.zero_le _, rfl, rfl, HB0.out, HBL.out⟩
  case round =>
    obtain ⟨k, hk, rfl, rfl, hB, hbel⟩ := hrel
    have hg := twinAt_good s l k
    by_cases hle : k ≤ l.length
    · have hpc := pieces_any hB.1
      obtain ⟨r0, -, r2, -, -, -⟩ := hB.2.cells
      have hz := twin_empty hg
      have hfew := hg.few
      have hst := hg.steps
      have hdo := fun (hk2 : k < l.length) (hsz : l[k].s.size ≤ 20000) => do_any hB hg (by omega) H4.out hs l[k].k l[k].a l[k].b l[k].s hsz
      have HPC := Lib.hid hpc
      have HB := Lib.hid hB
      have HDO := Lib.hid hdo
      obtain ⟨n, hn⟩ : ∃ n, n = (twinAt s l k).l.length := ⟨_, rfl⟩
      rw [← hn] at HPC hz hfew
      have hn0 : decide (((n : Nat) : Int) < 0) = false := by simp
      generalize (twinAt s l k).S = S at r0 hz
      generalize (twinAt s l k).n = m at r2 hfew hst
      generalize hbe : S.toList.isEmpty = be at hz
      clear hB hg hpc hn hdo
      by_cases hlt : k < l.length
      · have hd := HDO.out hlt (by have := sizes_mem l _ (List.getElem_mem hlt); have := H4.out; omega)
        rw [← twinAt_succ s l k hlt] at hd
        obtain ⟨b, off, rfl, hb, hc⟩ := (HS.out.below hbel) (by omega)
        obtain ⟨c0, c1, c2, c3⟩ := hc k l[k] (List.getElem?_eq_getElem hlt)
        have HD := Lib.hid hd
        generalize l[k].k = yk at *
        generalize l[k].a = ya at *
        generalize l[k].b = yb at *
        generalize l[k].s = ys at *
        clear hd hc HDO
        go_wp2_with fail
        go_at_call 29
        refine HPC.out.mono ?_
        rintro e w2 ⟨rfl, rfl⟩
        go_wp2_with fail
        go_at_call 26
        refine HD.out.mono ?_
        rintro e w2 ⟨rfl, hB2, hb2⟩
        go_wp2_with fail
        go_roundw
        case rel => exact ⟨k + 1, by omega, rfl, by go_num, hB2, hbel.trans hb2⟩
        case measure => simp [intOf]; omega
      · clear HDO
        go_wp2_with fail
        go_at_call 29
        refine HPC.out.mono ?_
        rintro e w2 ⟨rfl, rfl⟩
        go_wp2_with fail
        go_roundw
        case rel =>
          refine ⟨k + 1, by omega, rfl, by go_num, ?_, hbel⟩
          have e : twinAt s l (k + 1) = twinAt s l k := by unfold twinAt; rw [List.take_of_length_le (by omega), List.take_of_length_le (by omega)]
          rw [e]
          exact HB.out
        case measure => simp [intOf]; omega
    · clear hB hg
      go_wp2_with fail
      go_at_call 24
      refine (lives_any _).mono ?_
      rintro e w4 ⟨rfl, hb4⟩
      go_wp2_with fail
      go_ret
      exact ⟨rfl, hbel.trans (hb4.mono hbel.size)⟩
set_option maxRecDepth 100000 in
set_option maxHeartbeats 2000000 in
theorem counts_out (s : ByteArray) (a0 : Option Addr) (c : Nat) (l : List St) (w : World) (hs : s.size ≤ 140737488351232) (h : Steps w a0 l) (hl : ∀ y ∈ l, y.s.size ≤ 140737488351232) (hm : l.length ≤ maxLen) (ho : fewB l = false ∨ 20000 < s.size) :
    Calls Try.prog 8 #[.string s, .slice a0 l.length c] w fun e w' => e = .returned (.bool true) ∧ Below w.heap.size w w' := by
  have hfc := few_any a0 c l w h hl hm
  clear h hl hm
  cases hf : fewB l
  · rw [hf] at hfc
    have HF := Lib.hid hfc
    clear hfc ho hf
    go_enter Try.func8, Try.ntmps8
    go_wp2_with fail
    go_at_call 23
    refine HF.out.mono ?_
    rintro e w1 ⟨rfl, rfl⟩
    go_wp2_with fail
    go_at_call 24
    refine (lives_any _).mono ?_
    rintro e w4 ⟨rfl, hb4⟩
    go_wp2_with fail
    go_ret
    exact ⟨rfl, hb4⟩
  · have ho2 : 20000 < s.size := ho.elim (fun h => by rw [hf] at h; cases h) id
    rw [hf] at hfc
    have HF := Lib.hid hfc
    clear hfc ho hf
    go_enter Try.func8, Try.ntmps8
    go_wp2_with fail
    go_at_call 23
    refine HF.out.mono ?_
    rintro e w1 ⟨rfl, rfl⟩
    go_wp2_with fail
    go_at_call 24
    refine (lives_any _).mono ?_
    rintro e w4 ⟨rfl, hb4⟩
    go_wp2_with fail
    go_ret
    exact ⟨rfl, hb4⟩
theorem lawcounts_any (s : ByteArray) (a0 : Option Addr) (c : Nat) (l : List St) (w : World) (hs : s.size ≤ 140737488351232) (h : Steps w a0 l) (hl : ∀ y ∈ l, y.s.size ≤ 140737488351232) (hm : l.length ≤ maxLen) :
    Calls Try.prog 8 #[.string s, .slice a0 l.length c] w fun e w' => e = .returned (.bool true) ∧ Below w.heap.size w w' := by
  by_cases ho : fewB l = false ∨ 20000 < s.size
  · exact counts_out s a0 c l w hs h hl hm ho
  · have h1 : fewB l = true := by
      cases hf : fewB l
      · exact absurd (Or.inl hf) ho
      · rfl
    exact counts_in s a0 c l w (by have : ¬ 20000 < s.size := fun h => ho (Or.inr h); omega) h hl hm h1

theorem Try.own : ownKnob Try.prog.godebug = none := by kernel_rfl
theorem Try.laidOut : laidOutB Try.prog = true := by kernel_rfl
set_option maxRecDepth 100000 in
theorem pieceCounts_lifted (os : Os) (started : os.Started) (H : Type) (enc : TypeId × Value → H) :
    ReturnsInHanded {} Try.checked os 8 .any (Rows.pieceCountsSpec.pre6 enc Try.prog Try.f8 Rows.pieceCountsRow.domain false) (Rows.pieceCountsSpec.post enc Try.prog Try.f8 false true false false) := by
  refine returnsInHanded_of_change_sized (C := Try.checked) Try.own started (by kernel_rfl) Try.func8
    (ChangeSpec.witness6 (enc := enc) (C := Try.checked) false ⟨#[], #[.string ⟨#[]⟩, .slice none 0 0], []⟩ 8 (by kernel_rfl) (by kernel_rfl) (by kernel_rfl) (by kernel_rfl)) ?_
  intro W base args ds gs before hval0 hW hcnd hsz0 _
  have hval : ∀ (j : Nat) t v, Try.f8.params[j]? = some t → args[j]? = some v → Value.okWide Try.prog W .any base t v := hval0
  have hsz : (DataW.weightsEach Try.prog (Try.f8.params.toList ++ Rows.pieceCountsSpec.plain.varTypes Try.prog) (ds ++ gs)).all (· ≤ reachBytes) = true := hsz0
  have hW' := hW
  obtain ⟨p, q, hA0, hV, rfl, hfz, hnd⟩ := hW
  have hA : DataW.TrodAll enc Try.prog W 0 (fun _ => true) true Try.f8.params.toList args.toList ds p := hA0
  rw [Try.params8] at hA hval hsz
  obtain ⟨v0, v1, d0, d1, p0, p1, rfl, rfl, rfl, h0, h1⟩ := trodAll_two hA
  obtain ⟨rfl, rfl⟩ := trodVars_none hV
  obtain ⟨s, rfl, rfl, rfl, hs⟩ := open_string Try.underlying9 (hval 0 9 v0 rfl rfl) h0
  clear hA0
  simp only [List.append_nil] at hW'
  have hlt : ∀ x ∈ p1, x.block < W.heap.size := fun x hx => hW'.lt x (by simp [hx])
  obtain ⟨a0, len, cap, rfl⟩ := okWide_slice Try.underlying42 (hval 1 42 v1 rfl rfl)
  have h1k := h1
  have hs2 : s.size ≤ 140737488351232 := by
    have := sized_string hsz (j := 0) (t := 9) rfl rfl
    simpa [reachBytes] using this
  have fin : ∀ (e : Ending) (W' : World), (e = .returned (.bool true) ∧ Below W.heap.size W W') → ∃ v, e = .returned v ∧ Rows.pieceCountsSpec.post enc Try.prog Try.f8 false true false false W #[.string s, .slice a0 len cap] v W' := by
    rintro e W' ⟨rfl, hb⟩
    exact ⟨_, rfl, _, _, _, [], _, [], hW', trodAll_mk1 (shut_bool Try.underlying4 true), trodAll_mk2 (shut_string Try.underlying9 hs) (Below.trod Try.laidOut (by kernel_rfl) (of_decide_eq_true (by kernel_rfl)) h1k hb hlt), rfl, hb.frame _, fun h => by cases h⟩
  obtain ⟨fuel, hf⟩ := h1
  rcases open_steps hf with ⟨hcs, hx⟩ | ⟨a, cap', l, elems, rest, hcs, hl, hm, hx, hcell, hws⟩
  · simp [Value.cells] at hcs
    obtain ⟨rfl, rfl, rfl⟩ := hcs
    exact (lawcounts_any s none 0 [] W hs2 (steps_none W none) (by simp) (by simp)).mono fin
  · simp [Value.cells] at hcs
    obtain ⟨rfl, rfl, rfl⟩ := hcs
    have hx' : d1 = .slice elems rest := hx
    subst hx'
    refine (lawcounts_any s (some a) cap l W hs2 (steps_some hcell) ?_ (by omega)).mono fin
    intro y hy
    obtain ⟨j, hj⟩ := List.getElem?_of_mem hy
    obtain ⟨e0, e1, e2, hmem⟩ := hws j y hj
    have := step_sized hsz (j := 1) rfl rfl hmem
    rw [ba_len] at this
    simpa [reachBytes] using this

theorem pieceCounts_holds : Rows.PieceCountsSaid :=
  OpenClaim.holds_of_wide 8 Try.f8 rfl rfl rfl rfl rfl rfl rfl ⟨rfl, rfl, rfl, rfl, rfl⟩ rfl rfl rfl rfl rfl (by kernel_rfl) Try.func8 (by kernel_rfl)
    (of_decide_eq_true (by kernel_rfl)) (by unfold Func.isWrapper; first | (rw [if_pos (by decide +kernel)]; kernel_rfl) | (rw [if_neg (by decide +kernel)]; exact ⟨rfl, rfl⟩))
    (fun os started H enc _ => pieceCounts_lifted os started H enc)
#print axioms pieceCounts_holds
end Go.Proofs.Ytckgmofgcddnaaa
