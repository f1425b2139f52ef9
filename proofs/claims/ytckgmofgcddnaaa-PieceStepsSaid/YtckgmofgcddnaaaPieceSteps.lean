/- The law PieceSteps is true for every input. No condition. -/
import Derived.Test.YtckgmofgcddnaaaPieceRun
import Derived.Deep.RegionHeld3
namespace Go.Proofs.Ytckgmofgcddnaaa
open Go.ChangeShapes Go.WideShapes Go.ChangeAt Go.RowKit
open Go.ChangeMaps (open_string shut_string)

section
variable {P : Program} {ops : Array Oper} {Q : Exit → Act → World → Prop} {md : Region.Mode} {S : World → Prop}
/-- Number i is taken first; the operation is read off the list. -/
theorem takeH {i : Nat} {oi : Oper} {v : Value} {fuel : Nat} {listed : Array Bool} {a : Act} {w : World} (hi : ops.toList[i]? = some oi)
    (hs : Region.noSelect ops = true) (hf : Region.free md ops listed i = true) (hr : (Region.ready md ops listed).contains i = true)
    (hQ : ∀ c a w, Q (.panic c) (a.put oi.dst v) w → Q (.panic c) a w) (hy : YieldsIf P ops S oi v a) (hS : S w)
    (h : wpAnyH P md ops Q S fuel (listed.setIfInBounds i true) (a.put oi.dst v) w) : wpAnyH P md ops Q S (fuel + 1) listed a w :=
  wpAnyH_take (by rw [← Array.getElem?_toList]; exact hi) hs hf hr hQ hy hS h
theorem consH {fuel : Nat} {listed : Array Bool} {a : Act} {w : World} {i : Nat} {o : Oper} {rs : List Nat} (ho : ops.toList[i]? = some o)
    (h : ∀ K' : Act → World → Prop, Shut (∀ a w, S w → (S w → wpAnyH P md ops Q S fuel (listed.setIfInBounds i true) a w) → K' a w) → if Region.wanted o (yielded ops a.tmps) = true then Oper.wp P o a w K' Q else K' (a.put o.dst undef) w)
    (hs : AllReadyH P md ops Q S fuel listed a w rs) : AllReadyH P md ops Q S fuel listed a w (i :: rs) :=
  AllReadyH.cons (by rw [← Array.getElem?_toList]; exact ho) h hs
/-- A stronger condition may be taken up on the way. -/
theorem strongerH {S' : World → Prop} (hi : ∀ w, S' w → S w) : ∀ (fuel : Nat) (listed : Array Bool) (a : Act) (w : World), wpAnyH P md ops Q S' fuel listed a w → wpAnyH P md ops Q S fuel listed a w
  | 0, _, _, _, h => h
  | fuel + 1, _, _, _, h => ⟨h.1, fun i hr => wpOp_mono (fun a' w' h' => ⟨hi _ h'.1, strongerH hi fuel _ a' w' h'.2⟩) (h.2 i hr)⟩
end
theorem tstring_any {w : World} {B T X : Nat} {t : Twin} {i c z : Nat} (h : Both w B T X t) (g : t.Good i c z) (hi : i ≤ 1000) (hc : c ≤ 20000) (hz : z ≤ 20000) :
    Calls Try.prog 30 #[.pointer (some ⟨T, 0, none⟩)] w fun e w' => e = .returned (.string t.S) ∧ Below w.heap.size w w' := by
  have hN := g.total
  have g3 := g.add; have g4 := g.few; have g5 := g.steps; have g6 := g.put; have g7 := g.len; have g8 := g.first
  have hs := string_any h.1 (by omega) (by omega) (by omega) (by omega)
  have e : allOf t.f t.d t.l = t.S := ba_same _ _ (by show (body _ _ _).toArray.toList = _; rw [g.body])
  rw [e] at hs
  exact hs
theorem tlen_any {w : World} {B T X : Nat} {t : Twin} {i c z : Nat} (h : Both w B T X t) (g : t.Good i c z) :
    Calls Try.prog 31 #[.pointer (some ⟨T, 0, none⟩)] w fun e w' => e = .returned (.int .i64 (t.S.size : Nat)) ∧ w = w' := by
  have hs := len_any h.1
  rw [g.total] at hs
  exact hs
theorem tadded_any {w : World} {B T X : Nat} {t : Twin} {i c z : Nat} (h : Both w B T X t) (g : t.Good i c z) :
    Calls Try.prog 32 #[.pointer (some ⟨T, 0, none⟩)] w fun e w' => e = .returned (.int .i64 (t.a : Nat)) ∧ w = w' := by
  have hs := added_any h.1
  rw [← g.add] at hs
  exact hs
theorem Both.below {w w' : World} {B T X : Nat} {t : Twin} (h : Both w B T X t) (hb : Below w.heap.size w w') : Both w' B T X t := ⟨h.1.below hb, h.2.below hb⟩
theorem Both.two {w : World} {B T X : Nat} {t : Twin} (h : Both w B T X t) : w.cell? ⟨X, 0, none⟩ = some (.string t.S) ∧ w.cell? ⟨X, 1, none⟩ = some (.int .i64 (t.a : Nat)) := by
  obtain ⟨r0, r1, -, -, -, -⟩ := h.2.cells
  exact ⟨r0, r1⟩
set_option maxRecDepth 100000 in
set_option maxHeartbeats 2000000 in
theorem steps_in (s : ByteArray) (a0 : Option Addr) (c : Nat) (l : List St) (w : World) (hs : s.size ≤ 20000) (h : Steps w a0 l) (hl : ∀ y ∈ l, y.s.size ≤ 140737488351232) (hm : l.length ≤ maxLen) (hf : fewB l = true) :
    Calls Try.prog 9 #[.string s, .slice a0 l.length c] w fun e w' => e = .returned (.bool true) ∧ Below w.heap.size w w' := by
  have hfc := few_any a0 c l w h hl hm
  rw [hf] at hfc
  have hl2 : l.length ≤ 200 ∧ sizes l ≤ 20000 := by unfold fewB at hf; simpa using hf
  obtain ⟨hl3, hl4⟩ := hl2
  have HS := Lib.hid h
  have HF := Lib.hid hfc
  have H4 := Lib.hid hl4
  have hn := new_any s w w.heap.size (Nat.le_refl _) (by omega)
  have HN := Lib.hid hn
  unfold maxLen at hm
  clear h hl hf hfc hn hl4
  go_enter Try.func9, Try.ntmps9
  go_wp2_with fail
  go_at_call 23
  refine HF.out.mono ?_
  rintro e w1 ⟨rfl, rfl⟩
  go_wp2_with fail
  go_at_call 25
  refine HN.out.mono ?_
  rintro e w1 ⟨rfl, hT1, hb1⟩
  have hB0 := both_first hT1 hb1
  have hbel0 : Below w.heap.size w (w1.alloc (.cells (refCells s) 48)) := hb1.alloc hb1.size _
  unfold refCells at hB0 hbel0
  have HB0 := Lib.hid hB0
  have HBL := Lib.hid hbel0
  clear hT1 hB0 hbel0
  go_wp2_with fail
  go_loopw [4, 7] (fun r i wr => ∃ k : Nat, k ≤ l.length ∧ r = .bool false ∧ i = .int .i64 k ∧ Both wr w.heap.size w.heap.size w1.heap.size (twinAt s l k) ∧ Below w.heap.size w wr) (fun _ i _ => l.length - (intOf i).toNat)
  case atStart => exact ⟨0, Nat.zero_le _, rfl, rfl, HB0.out, HBL.out⟩
  case round =>
    obtain ⟨k, hk, rfl, rfl, hB, hbel⟩ := hrel
    have hg := twinAt_good s l k
    by_cases hlt : k < l.length
    · obtain ⟨b, off, rfl, hb, hc⟩ := HS.out (by omega)
      obtain ⟨c0, c1, c2, c3⟩ := hc k l[k] (List.getElem?_eq_getElem hlt)
      have hsz := sizes_mem l _ (List.getElem_mem hlt)
      have h4 := H4.out
      have hd := do_any (w := wr.drew) ⟨hB.1.below (Below.refl _ wr).drew, hB.2.below (Below.refl _ wr).drew⟩ hg (by omega) h4 hs l[k].k l[k].a l[k].b l[k].s (by omega)
      rw [← twinAt_succ s l k hlt] at hd
      have HD := Lib.hid hd
      have HG := Lib.hid (twinAt_good s l (k + 1))
      have hki : k + 1 ≤ 1000 := by omega
      generalize l[k].k = yk at *
      generalize l[k].a = ya at *
      generalize l[k].b = yb at *
      generalize l[k].s = ys at *
      generalize ht2 : twinAt s l (k + 1) = t2 at HD HG
      have HT2 := Lib.hid ht2
      clear hd hc hsz h4 hg hB ht2
      have hcr : wr.cell? ⟨b, off + k * 4, none⟩ = some (.int .i64 yk) := (hbel.cell (p := ⟨b, _, none⟩) hb).trans c0
      go_wp2_with fail
      have hE : ∀ w' : World, Below w.heap.size w w' → w'.cell? ⟨b, off + k * 4, none⟩ = some (.int .i64 yk) ∧ w'.cell? ⟨b, off + k * 4 + 1, none⟩ = some (.int .i64 ya) ∧ w'.cell? ⟨b, off + k * 4 + 2, none⟩ = some (.int .i64 yb) ∧ w'.cell? ⟨b, off + k * 4 + 3, none⟩ = some (.string ys) := fun w' h => ⟨(h.cell (p := ⟨b, _, none⟩) hb).trans c0, (h.cell (p := ⟨b, _, none⟩) hb).trans c1, (h.cell (p := ⟨b, _, none⟩) hb).trans c2, (h.cell (p := ⟨b, _, none⟩) hb).trans c3⟩
      have HE := Lib.hid hE
      clear hE c0 c1 c2 c3
      refine wp_region_held_drew (S := fun w' => w'.cell? ⟨b, off + k * 4, none⟩ = some (.int .i64 yk) ∧ w'.cell? ⟨b, off + k * 4 + 1, none⟩ = some (.int .i64 ya) ∧ w'.cell? ⟨b, off + k * 4 + 2, none⟩ = some (.int .i64 yb) ∧ w'.cell? ⟨b, off + k * 4 + 3, none⟩ = some (.string ys)) (by kernel_rfl) (HE.out _ hbel.drew) (fun hHeld => ?_)
      refine takeH (i := 0) (oi := _) (v := ?_) rfl (by kernel_rfl) (by kernel_rfl) (by kernel_rfl) (fun _ _ _ h => h) (Or.inl ⟨by rfl, ?_⟩) (by assumption) ?_
      rotate_left
      · intro w9 hSw; (try dsimp only at hSw); go_simp; (try with_reducible rfl)
      (try simp only [Act.put, List.setIfInBounds_toArray, List.set_cons_zero, List.set_cons_succ])
      refine takeH (i := 1) (oi := _) (v := ?_) rfl (by kernel_rfl) (by kernel_rfl) (by kernel_rfl) (fun _ _ _ h => h) (Or.inl ⟨by rfl, ?_⟩) (by assumption) ?_
      rotate_left
      · intro w9 hSw; (try dsimp only at hSw); go_simp; (try with_reducible rfl)
      (try simp only [Act.put, List.setIfInBounds_toArray, List.set_cons_zero, List.set_cons_succ])
      refine takeH (i := 2) (oi := _) (v := ?_) rfl (by kernel_rfl) (by kernel_rfl) (by kernel_rfl) (fun _ _ _ h => h) (Or.inl ⟨by rfl, ?_⟩) (by assumption) ?_
      rotate_left
      · intro w9 hSw; (try dsimp only at hSw); go_simp; (try with_reducible rfl)
      (try simp only [Act.put, List.setIfInBounds_toArray, List.set_cons_zero, List.set_cons_succ])
      refine takeH (i := 3) (oi := _) (v := ?_) rfl (by kernel_rfl) (by kernel_rfl) (by kernel_rfl) (fun _ _ _ h => h) (Or.inl ⟨by rfl, ?_⟩) (by assumption) ?_
      rotate_left
      · intro w9 hSw; (try dsimp only at hSw); go_simp; (try with_reducible rfl)
      (try simp only [Act.put, List.setIfInBounds_toArray, List.set_cons_zero, List.set_cons_succ])
      refine takeH (i := 4) (oi := _) (v := ?_) rfl (by kernel_rfl) (by kernel_rfl) (by kernel_rfl) (fun _ _ _ h => h) (Or.inl ⟨by rfl, ?_⟩) (by assumption) ?_
      rotate_left
      · intro w9 hSw; (try dsimp only at hSw); go_simp; (try with_reducible rfl)
      (try simp only [Act.put, List.setIfInBounds_toArray, List.set_cons_zero, List.set_cons_succ])
      refine takeH (i := 5) (oi := _) (v := ?_) rfl (by kernel_rfl) (by kernel_rfl) (by kernel_rfl) (fun _ _ _ h => h) (Or.inl ⟨by rfl, ?_⟩) (by assumption) ?_
      rotate_left
      · intro w9 hSw; (try dsimp only at hSw); go_simp; (try with_reducible rfl)
      (try simp only [Act.put, List.setIfInBounds_toArray, List.set_cons_zero, List.set_cons_succ])
      refine wpAnyH_ready (rs := [6]) (by kernel_rfl) (by simp) ?_
      refine consH rfl (fun K hK => ?_) AllReadyH.nil
      go_simp
      refine HD.out.mono ?_
      rintro e w2 ⟨rfl, hB2, hb2⟩
      have hbw2 := hbel.drew.trans hb2
      have HB2 := Lib.hid hB2
      clear hB2
      (try go_wp2_with fail)
      refine hK.out _ _ (HE.out _ hbw2) (fun hHeld => ?_)
      clear hK K
      (try simp only [Act.put, List.setIfInBounds_toArray, List.set_cons_zero, List.set_cons_succ])
      refine takeH (i := 7) (oi := _) (v := ?_) rfl (by kernel_rfl) (by kernel_rfl) (by kernel_rfl) (fun _ _ _ h => h) (Or.inl ⟨by rfl, ?_⟩) (by assumption) ?_
      rotate_left
      · intro w9 hSw; (try dsimp only at hSw); go_simp; (try with_reducible rfl)
      (try simp only [Act.put, List.setIfInBounds_toArray, List.set_cons_zero, List.set_cons_succ])
      refine takeH (i := 8) (oi := _) (v := ?_) rfl (by kernel_rfl) (by kernel_rfl) (by kernel_rfl) (fun _ _ _ h => h) (Or.inl ⟨by rfl, ?_⟩) (by assumption) ?_
      rotate_left
      · intro w9 hSw; (try dsimp only at hSw); go_simp; (try with_reducible rfl)
      (try simp only [Act.put, List.setIfInBounds_toArray, List.set_cons_zero, List.set_cons_succ])
      refine strongerH (S' := fun w' => w'.cell? ⟨b, off + k * 4, none⟩ = some (.int .i64 yk) ∧ w'.cell? ⟨b, off + k * 4 + 1, none⟩ = some (.int .i64 ya) ∧ w'.cell? ⟨b, off + k * 4 + 2, none⟩ = some (.int .i64 yb) ∧ w'.cell? ⟨b, off + k * 4 + 3, none⟩ = some (.string ys) ∧ w'.cell? ⟨w1.heap.size, 0, none⟩ = some (.string t2.S) ∧ w'.cell? ⟨w1.heap.size, 1, none⟩ = some (.int .i64 (t2.a : Nat))) (fun _ h => ⟨h.1, h.2.1, h.2.2.1, h.2.2.2.1⟩) _ _ _ _ ?_
      have hHeld2 : (fun w' : World => w'.cell? ⟨b, off + k * 4, none⟩ = some (.int .i64 yk) ∧ w'.cell? ⟨b, off + k * 4 + 1, none⟩ = some (.int .i64 ya) ∧ w'.cell? ⟨b, off + k * 4 + 2, none⟩ = some (.int .i64 yb) ∧ w'.cell? ⟨b, off + k * 4 + 3, none⟩ = some (.string ys) ∧ w'.cell? ⟨w1.heap.size, 0, none⟩ = some (.string t2.S) ∧ w'.cell? ⟨w1.heap.size, 1, none⟩ = some (.int .i64 (t2.a : Nat))) w2 := by
        obtain ⟨e1, e2, e3, e4⟩ := HE.out _ hbw2
        obtain ⟨r0, r1⟩ := HB2.out.two
        exact ⟨e1, e2, e3, e4, r0, r1⟩
      clear hHeld
      refine takeH (i := 9) (oi := _) (v := ?_) rfl (by kernel_rfl) (by kernel_rfl) (by kernel_rfl) (fun _ _ _ h => h) (Or.inl ⟨by rfl, ?_⟩) (by assumption) ?_
      rotate_left
      · intro w9 hSw; (try dsimp only at hSw); go_simp; (try with_reducible rfl)
      (try simp only [Act.put, List.setIfInBounds_toArray, List.set_cons_zero, List.set_cons_succ])
      refine takeH (i := 11) (oi := _) (v := ?_) rfl (by kernel_rfl) (by kernel_rfl) (by kernel_rfl) (fun _ _ _ h => h) (Or.inl ⟨by rfl, ?_⟩) (by assumption) ?_
      rotate_left
      · intro w9 hSw; (try dsimp only at hSw); go_simp; (try with_reducible rfl)
      (try simp only [Act.put, List.setIfInBounds_toArray, List.set_cons_zero, List.set_cons_succ])
      refine takeH (i := 12) (oi := _) (v := ?_) rfl (by kernel_rfl) (by kernel_rfl) (by kernel_rfl) (fun _ _ _ h => h) (Or.inl ⟨by rfl, ?_⟩) (by assumption) ?_
      rotate_left
      · intro w9 hSw; (try dsimp only at hSw); go_simp; (try with_reducible rfl)
      (try simp only [Act.put, List.setIfInBounds_toArray, List.set_cons_zero, List.set_cons_succ])
      refine takeH (i := 13) (oi := _) (v := ?_) rfl (by kernel_rfl) (by kernel_rfl) (by kernel_rfl) (fun _ _ _ h => h) (Or.inl ⟨by rfl, ?_⟩) (by assumption) ?_
      rotate_left
      · intro w9 hSw; (try dsimp only at hSw); go_simp; (try with_reducible rfl)
      (try simp only [Act.put, List.setIfInBounds_toArray, List.set_cons_zero, List.set_cons_succ])
      refine takeH (i := 14) (oi := _) (v := ?_) rfl (by kernel_rfl) (by kernel_rfl) (by kernel_rfl) (fun _ _ _ h => h) (Or.inl ⟨by rfl, ?_⟩) (by assumption) ?_
      rotate_left
      · intro w9 hSw; (try dsimp only at hSw); go_simp; (try with_reducible rfl)
      (try simp only [Act.put, List.setIfInBounds_toArray, List.set_cons_zero, List.set_cons_succ])
      refine wpAnyH_ready (rs := [10]) (by kernel_rfl) (by simp) ?_
      refine consH rfl (fun K hK => ?_) AllReadyH.nil
      go_simp
      refine (tstring_any HB2.out HG.out hki H4.out hs).mono ?_
      rintro e w3 ⟨rfl, hb3⟩
      have hbw3 := hbw2.trans (hb3.mono hbw2.size)
      have HB3 := Lib.hid (HB2.out.below hb3)
      clear hHeld2
      (try go_wp2_with fail)
      refine hK.out _ _ (by
        obtain ⟨e1, e2, e3, e4⟩ := HE.out _ hbw3
        obtain ⟨r0, r1⟩ := HB3.out.two
        exact ⟨e1, e2, e3, e4, r0, r1⟩) (fun hHeld => ?_)
      clear hK K
      (try simp only [Act.put, List.setIfInBounds_toArray, List.set_cons_zero, List.set_cons_succ])
      refine takeH (i := 15) (oi := _) (v := ?_) rfl (by kernel_rfl) (by kernel_rfl) (by kernel_rfl) (fun _ _ _ h => h) (Or.inl ⟨by rfl, ?_⟩) (by assumption) ?_
      rotate_left
      · intro w9 hSw; (try dsimp only at hSw); go_simp; (try with_reducible rfl)
      (try simp only [Act.put, List.setIfInBounds_toArray, List.set_cons_zero, List.set_cons_succ])
      refine takeH (i := 16) (oi := _) (v := ?_) rfl (by kernel_rfl) (by kernel_rfl) (by kernel_rfl) (fun _ _ _ h => h) (Or.inl ⟨by rfl, ?_⟩) (by assumption) ?_
      rotate_left
      · intro w9 hSw; (try dsimp only at hSw); go_simp; (try with_reducible rfl)
      (try simp only [Act.put, List.setIfInBounds_toArray, List.set_cons_zero, List.set_cons_succ])
      refine takeH (i := 17) (oi := _) (v := ?_) rfl (by kernel_rfl) (by kernel_rfl) (by kernel_rfl) (fun _ _ _ h => h) (Or.inl ⟨by rfl, ?_⟩) (by assumption) ?_
      rotate_left
      · intro w9 hSw; (try dsimp only at hSw); go_simp; (try with_reducible rfl)
      (try simp only [Act.put, List.setIfInBounds_toArray, List.set_cons_zero, List.set_cons_succ])
      refine takeH (i := 18) (oi := _) (v := ?_) rfl (by kernel_rfl) (by kernel_rfl) (by kernel_rfl) (fun _ _ _ h => h) (Or.inl ⟨by rfl, ?_⟩) (by assumption) ?_
      rotate_left
      · intro w9 hSw; (try dsimp only at hSw); go_simp; (try with_reducible rfl)
      (try simp only [Act.put, List.setIfInBounds_toArray, List.set_cons_zero, List.set_cons_succ])
      refine takeH (i := 20) (oi := _) (v := ?_) rfl (by kernel_rfl) (by kernel_rfl) (by kernel_rfl) (fun _ _ _ h => h) (Or.inl ⟨by rfl, ?_⟩) (by assumption) ?_
      rotate_left
      · intro w9 hSw; (try dsimp only at hSw); go_simp; (try with_reducible rfl)
      (try simp only [Act.put, List.setIfInBounds_toArray, List.set_cons_zero, List.set_cons_succ])
      refine takeH (i := 21) (oi := _) (v := ?_) rfl (by kernel_rfl) (by kernel_rfl) (by kernel_rfl) (fun _ _ _ h => h) (Or.inl ⟨by rfl, ?_⟩) (by assumption) ?_
      rotate_left
      · intro w9 hSw; (try dsimp only at hSw); go_simp; (try with_reducible rfl)
      (try simp only [Act.put, List.setIfInBounds_toArray, List.set_cons_zero, List.set_cons_succ])
      refine takeH (i := 22) (oi := _) (v := ?_) rfl (by kernel_rfl) (by kernel_rfl) (by kernel_rfl) (fun _ _ _ h => h) (Or.inl ⟨by rfl, ?_⟩) (by assumption) ?_
      rotate_left
      · intro w9 hSw; (try dsimp only at hSw); go_simp; (try with_reducible rfl)
      (try simp only [Act.put, List.setIfInBounds_toArray, List.set_cons_zero, List.set_cons_succ])
      refine takeH (i := 23) (oi := _) (v := ?_) rfl (by kernel_rfl) (by kernel_rfl) (by kernel_rfl) (fun _ _ _ h => h) (Or.inl ⟨by rfl, ?_⟩) (by assumption) ?_
      rotate_left
      · intro w9 hSw; (try dsimp only at hSw); go_simp; (try with_reducible rfl)
      (try simp only [Act.put, List.setIfInBounds_toArray, List.set_cons_zero, List.set_cons_succ])
      refine takeH (i := 24) (oi := _) (v := ?_) rfl (by kernel_rfl) (by kernel_rfl) (by kernel_rfl) (fun _ _ _ h => h) (Or.inl ⟨by rfl, ?_⟩) (by assumption) ?_
      rotate_left
      · intro w9 hSw; (try dsimp only at hSw); go_simp; (try with_reducible rfl)
      (try simp only [Act.put, List.setIfInBounds_toArray, List.set_cons_zero, List.set_cons_succ])
      refine wpAnyH_ready (rs := [19]) (by kernel_rfl) (by simp) ?_
      refine consH rfl (fun K hK => ?_) AllReadyH.nil
      go_simp
      refine (tlen_any HB3.out HG.out).mono ?_
      rintro e w4 ⟨rfl, rfl⟩
      (try go_wp2_with fail)
      refine hK.out _ _ hHeld (fun hHeld => ?_)
      clear hK K
      (try simp only [Act.put, List.setIfInBounds_toArray, List.set_cons_zero, List.set_cons_succ])
      refine takeH (i := 25) (oi := _) (v := ?_) rfl (by kernel_rfl) (by kernel_rfl) (by kernel_rfl) (fun _ _ _ h => h) (Or.inl ⟨by rfl, ?_⟩) (by assumption) ?_
      rotate_left
      · intro w9 hSw; (try dsimp only at hSw); go_simp; (try with_reducible rfl)
      (try simp only [Act.put, List.setIfInBounds_toArray, List.set_cons_zero, List.set_cons_succ])
      refine takeH (i := 26) (oi := _) (v := ?_) rfl (by kernel_rfl) (by kernel_rfl) (by kernel_rfl) (fun _ _ _ h => h) (Or.inl ⟨by rfl, ?_⟩) (by assumption) ?_
      rotate_left
      · intro w9 hSw; (try dsimp only at hSw); go_simp; (try with_reducible rfl)
      (try simp only [Act.put, List.setIfInBounds_toArray, List.set_cons_zero, List.set_cons_succ])
      refine takeH (i := 27) (oi := _) (v := ?_) rfl (by kernel_rfl) (by kernel_rfl) (by kernel_rfl) (fun _ _ _ h => h) (Or.inl ⟨by rfl, ?_⟩) (by assumption) ?_
      rotate_left
      · intro w9 hSw; (try dsimp only at hSw); go_simp; (try with_reducible rfl)
      (try simp only [Act.put, List.setIfInBounds_toArray, List.set_cons_zero, List.set_cons_succ])
      refine takeH (i := 28) (oi := _) (v := ?_) rfl (by kernel_rfl) (by kernel_rfl) (by kernel_rfl) (fun _ _ _ h => h) (Or.inl ⟨by rfl, ?_⟩) (by assumption) ?_
      rotate_left
      · intro w9 hSw; (try dsimp only at hSw); go_simp; (try with_reducible rfl)
      (try simp only [Act.put, List.setIfInBounds_toArray, List.set_cons_zero, List.set_cons_succ])
      refine takeH (i := 30) (oi := _) (v := ?_) rfl (by kernel_rfl) (by kernel_rfl) (by kernel_rfl) (fun _ _ _ h => h) (Or.inl ⟨by rfl, ?_⟩) (by assumption) ?_
      rotate_left
      · intro w9 hSw; (try dsimp only at hSw); go_simp; (try with_reducible rfl)
      (try simp only [Act.put, List.setIfInBounds_toArray, List.set_cons_zero, List.set_cons_succ])
      refine takeH (i := 31) (oi := _) (v := ?_) rfl (by kernel_rfl) (by kernel_rfl) (by kernel_rfl) (fun _ _ _ h => h) (Or.inl ⟨by rfl, ?_⟩) (by assumption) ?_
      rotate_left
      · intro w9 hSw; (try dsimp only at hSw); go_simp; (try with_reducible rfl)
      (try simp only [Act.put, List.setIfInBounds_toArray, List.set_cons_zero, List.set_cons_succ])
      refine takeH (i := 32) (oi := _) (v := ?_) rfl (by kernel_rfl) (by kernel_rfl) (by kernel_rfl) (fun _ _ _ h => h) (Or.inl ⟨by rfl, ?_⟩) (by assumption) ?_
      rotate_left
      · intro w9 hSw; (try dsimp only at hSw); go_simp; (try with_reducible rfl)
      (try simp only [Act.put, List.setIfInBounds_toArray, List.set_cons_zero, List.set_cons_succ])
      refine takeH (i := 33) (oi := _) (v := ?_) rfl (by kernel_rfl) (by kernel_rfl) (by kernel_rfl) (fun _ _ _ h => h) (Or.inl ⟨by rfl, ?_⟩) (by assumption) ?_
      rotate_left
      · intro w9 hSw; (try dsimp only at hSw); go_simp; (try with_reducible rfl)
      (try simp only [Act.put, List.setIfInBounds_toArray, List.set_cons_zero, List.set_cons_succ])
      refine wpAnyH_ready (rs := [29]) (by kernel_rfl) (by simp) ?_
      refine consH rfl (fun K hK => ?_) AllReadyH.nil
      go_simp
      refine (tadded_any HB3.out HG.out).mono ?_
      rintro e w4 ⟨rfl, rfl⟩
      (try go_wp2_with fail)
      refine hK.out _ _ hHeld (fun hHeld => ?_)
      clear hK K
      (try simp only [Act.put, List.setIfInBounds_toArray, List.set_cons_zero, List.set_cons_succ])
      refine takeH (i := 34) (oi := _) (v := ?_) rfl (by kernel_rfl) (by kernel_rfl) (by kernel_rfl) (fun _ _ _ h => h) (Or.inl ⟨by rfl, ?_⟩) (by assumption) ?_
      rotate_left
      · intro w9 hSw; (try dsimp only at hSw); go_simp; (try with_reducible rfl)
      (try simp only [Act.put, List.setIfInBounds_toArray, List.set_cons_zero, List.set_cons_succ])
      refine takeH (i := 35) (oi := _) (v := ?_) rfl (by kernel_rfl) (by kernel_rfl) (by kernel_rfl) (fun _ _ _ h => h) (Or.inl ⟨by rfl, ?_⟩) (by assumption) ?_
      rotate_left
      · intro w9 hSw; (try dsimp only at hSw); go_simp; (try with_reducible rfl)
      (try simp only [Act.put, List.setIfInBounds_toArray, List.set_cons_zero, List.set_cons_succ])
      refine wpAnyH_done (by kernel_rfl) ?_ _
      clear hHeld
      go_wp2_with fail
      go_roundw
      case rel => exact ⟨k + 1, by omega, rfl, by go_num, by rw [HT2.out]; exact HB3.out, hbw3⟩
      case measure => simp [intOf]; omega
    · clear hB hg
      go_wp2_with fail
      go_at_call 24
      refine (lives_any _).mono ?_
      rintro e w4 ⟨rfl, hb4⟩
      go_wp2_with fail
      go_ret
      exact ⟨rfl, hbel.trans (hb4.mono hbel.size)⟩
set_option maxRecDepth 100000 in
set_option maxHeartbeats 2000000 in
theorem steps_out (s : ByteArray) (a0 : Option Addr) (c : Nat) (l : List St) (w : World) (hs : s.size ≤ 140737488351232) (h : Steps w a0 l) (hl : ∀ y ∈ l, y.s.size ≤ 140737488351232) (hm : l.length ≤ maxLen) (ho : fewB l = false ∨ 20000 < s.size) :
    Calls Try.prog 9 #[.string s, .slice a0 l.length c] w fun e w' => e = .returned (.bool true) ∧ Below w.heap.size w w' := by
  have hfc := few_any a0 c l w h hl hm
  clear h hl hm
  cases hf : fewB l
  · rw [hf] at hfc
    have HF := Lib.hid hfc
    clear hfc ho hf
    go_enter Try.func9, Try.ntmps9
    go_wp2_with fail
    go_at_call 23
    refine HF.out.mono ?_
    rintro e w1 ⟨rfl, rfl⟩
    go_wp2_with fail
    go_at_call 24
    refine (lives_any _).mono ?_
    rintro e w4 ⟨rfl, hb4⟩
    go_wp2_with fail
    go_ret
    exact ⟨rfl, hb4⟩
  · have ho2 : 20000 < s.size := ho.elim (fun h => by rw [hf] at h; cases h) id
    rw [hf] at hfc
    have HF := Lib.hid hfc
    clear hfc ho hf
    go_enter Try.func9, Try.ntmps9
    go_wp2_with fail
    go_at_call 23
    refine HF.out.mono ?_
    rintro e w1 ⟨rfl, rfl⟩
    go_wp2_with fail
    go_at_call 24
    refine (lives_any _).mono ?_
    rintro e w4 ⟨rfl, hb4⟩
    go_wp2_with fail
    go_ret
    exact ⟨rfl, hb4⟩
theorem lawsteps_any (s : ByteArray) (a0 : Option Addr) (c : Nat) (l : List St) (w : World) (hs : s.size ≤ 140737488351232) (h : Steps w a0 l) (hl : ∀ y ∈ l, y.s.size ≤ 140737488351232) (hm : l.length ≤ maxLen) :
    Calls Try.prog 9 #[.string s, .slice a0 l.length c] w fun e w' => e = .returned (.bool true) ∧ Below w.heap.size w w' := by
  by_cases ho : fewB l = false ∨ 20000 < s.size
  · exact steps_out s a0 c l w hs h hl hm ho
  · have h1 : fewB l = true := by
      cases hf : fewB l
      · exact absurd (Or.inl hf) ho
      · rfl
    exact steps_in s a0 c l w (by have : ¬ 20000 < s.size := fun h => ho (Or.inr h); omega) h hl hm h1

theorem Try.own : ownKnob Try.prog.godebug = none := by kernel_rfl
theorem Try.laidOut : laidOutB Try.prog = true := by kernel_rfl
set_option maxRecDepth 100000 in
theorem pieceSteps_lifted (os : Os) (started : os.Started) (H : Type) (enc : TypeId × Value → H) :
    ReturnsInHanded {} Try.checked os 9 .any (Rows.pieceStepsSpec.pre6 enc Try.prog Try.f9 Rows.pieceStepsRow.domain false) (Rows.pieceStepsSpec.post enc Try.prog Try.f9 false true false false) := by
  refine returnsInHanded_of_change_sized (C := Try.checked) Try.own started (by kernel_rfl) Try.func9
    (ChangeSpec.witness6 (enc := enc) (C := Try.checked) false ⟨#[], #[.string ⟨#[]⟩, .slice none 0 0], []⟩ 8 (by kernel_rfl) (by kernel_rfl) (by kernel_rfl) (by kernel_rfl)) ?_
  intro W base args ds gs before hval0 hW hcnd hsz0 _
  have hval : ∀ (j : Nat) t v, Try.f9.params[j]? = some t → args[j]? = some v → Value.okWide Try.prog W .any base t v := hval0
  have hsz : (DataW.weightsEach Try.prog (Try.f9.params.toList ++ Rows.pieceStepsSpec.plain.varTypes Try.prog) (ds ++ gs)).all (· ≤ reachBytes) = true := hsz0
  have hW' := hW
  obtain ⟨p, q, hA0, hV, rfl, hfz, hnd⟩ := hW
  have hA : DataW.TrodAll enc Try.prog W 0 (fun _ => true) true Try.f9.params.toList args.toList ds p := hA0
  rw [Try.params9] at hA hval hsz
  obtain ⟨v0, v1, d0, d1, p0, p1, rfl, rfl, rfl, h0, h1⟩ := trodAll_two hA
  obtain ⟨rfl, rfl⟩ := trodVars_none hV
  obtain ⟨s, rfl, rfl, rfl, hs⟩ := open_string Try.underlying9 (hval 0 9 v0 rfl rfl) h0
  clear hA0
  simp only [List.append_nil] at hW'
  have hlt : ∀ x ∈ p1, x.block < W.heap.size := fun x hx => hW'.lt x (by simp [hx])
  obtain ⟨a0, len, cap, rfl⟩ := okWide_slice Try.underlying42 (hval 1 42 v1 rfl rfl)
  have h1k := h1
  have hs2 : s.size ≤ 140737488351232 := by
    have := sized_string hsz (j := 0) (t := 9) rfl rfl
    simpa [reachBytes] using this
  have fin : ∀ (e : Ending) (W' : World), (e = .returned (.bool true) ∧ Below W.heap.size W W') → ∃ v, e = .returned v ∧ Rows.pieceStepsSpec.post enc Try.prog Try.f9 false true false false W #[.string s, .slice a0 len cap] v W' := by
    rintro e W' ⟨rfl, hb⟩
    exact ⟨_, rfl, _, _, _, [], _, [], hW', trodAll_mk1 (shut_bool Try.underlying4 true), trodAll_mk2 (shut_string Try.underlying9 hs) (Below.trod Try.laidOut (by kernel_rfl) (of_decide_eq_true (by kernel_rfl)) h1k hb hlt), rfl, hb.frame _, fun h => by cases h⟩
  obtain ⟨fuel, hf⟩ := h1
  rcases open_steps hf with ⟨hcs, hx⟩ | ⟨a, cap', l, elems, rest, hcs, hl, hm, hx, hcell, hws⟩
  · simp [Value.cells] at hcs
    obtain ⟨rfl, rfl, rfl⟩ := hcs
    exact (lawsteps_any s none 0 [] W hs2 (steps_none W none) (by simp) (by simp)).mono fin
  · simp [Value.cells] at hcs
    obtain ⟨rfl, rfl, rfl⟩ := hcs
    have hx' : d1 = .slice elems rest := hx
    subst hx'
    refine (lawsteps_any s (some a) cap l W hs2 (steps_some hcell) ?_ (by omega)).mono fin
    intro y hy
    obtain ⟨j, hj⟩ := List.getElem?_of_mem hy
    obtain ⟨e0, e1, e2, hmem⟩ := hws j y hj
    have := step_sized hsz (j := 1) rfl rfl hmem
    rw [ba_len] at this
    simpa [reachBytes] using this

theorem pieceSteps_holds : Rows.PieceStepsSaid :=
  OpenClaim.holds_of_wide 9 Try.f9 rfl rfl rfl rfl rfl rfl rfl ⟨rfl, rfl, rfl, rfl, rfl⟩ rfl rfl rfl rfl rfl (by kernel_rfl) Try.func9 (by kernel_rfl)
    (of_decide_eq_true (by kernel_rfl)) (by unfold Func.isWrapper; first | (rw [if_pos (by decide +kernel)]; kernel_rfl) | (rw [if_neg (by decide +kernel)]; exact ⟨rfl, rfl⟩))
    (fun os started H enc _ => pieceSteps_lifted os started H enc)
#print axioms pieceSteps_holds
end Go.Proofs.Ytckgmofgcddnaaa
