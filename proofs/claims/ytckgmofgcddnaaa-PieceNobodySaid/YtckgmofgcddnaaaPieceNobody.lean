/- The law PieceNobody is true for every input. No condition. -/
import Derived.Test.YtckgmofgcddnaaaPieceDo2
import Derived.ProofKit
import Derived.SizedLaws
import Derived.OpenShut
namespace Go.Proofs.Ytckgmofgcddnaaa
open Go.ChangeShapes Go.WideShapes Go.ChangeAt Go.RowKit
open Go.ChangeMaps (open_string shut_string)

theorem len_nil (w : World) : Calls Try.prog 31 #[.pointer none] w fun e w' => e = .returned (.int .i64 0) ∧ w = w' := by
  go_enter Try.func31, Try.ntmps31
  go_wp2
  go_ret
  exact ⟨rfl, rfl⟩
theorem pieces_nil (w : World) : Calls Try.prog 29 #[.pointer none] w fun e w' => e = .returned (.int .i64 0) ∧ w = w' := by
  go_enter Try.func29, Try.ntmps29
  go_wp2
  go_ret
  exact ⟨rfl, rfl⟩
theorem added_nil (w : World) : Calls Try.prog 32 #[.pointer none] w fun e w' => e = .returned (.int .i64 0) ∧ w = w' := by
  go_enter Try.func32, Try.ntmps32
  go_wp2
  go_ret
  exact ⟨rfl, rfl⟩
/-- What New did not give. -/
def zeroCells : Array Value := #[.string ⟨#[]⟩, .slice none 0 0, .slice none 0 0, .int .i64 0]
theorem tab_zero (w : World) : Tab (w.alloc (.cells zeroCells 59)) w.heap.size w.heap.size ⟨#[]⟩ [] [] :=
  ⟨.slice none 0 0, .slice none 0 0, Nat.le_refl _, heap_alloc_new w _, World.ownsRow_nil _ _ _ _, Or.inl ⟨rfl, rfl⟩, fun x hx => by cases hx⟩
theorem good_zero : (Twin.mk ⟨#[]⟩ [] [] ⟨#[]⟩ 0 0).Good 0 0 0 := by
  have := Twin.Good.new ⟨#[]⟩
  exact this
theorem good_ins (p : Int) (s : ByteArray) : (Twin.mk ⟨#[]⟩ (insD [] 0 p s) (insLL [] [] 0 p s) (insS ⟨#[]⟩ p s) (insA 0 0 p s) (insN 0 0 p)).Good 1 s.size 0 := by
  have := good_zero.step 0 p 0 s
  simp only [Nat.zero_add] at this
  rw [show (Twin.mk ⟨#[]⟩ [] [] ⟨#[]⟩ 0 0).step 0 p 0 s = ⟨⟨#[]⟩, insD [] 0 p s, insLL [] [] 0 p s, insS ⟨#[]⟩ p s, insA 0 0 p s, insN 0 0 p⟩ from by unfold Twin.step; rw [if_pos rfl]; rfl] at this
  exact this
theorem insS_empty_in (s : ByteArray) : insS ⟨#[]⟩ 0 s = s := by
  unfold insS
  refine ba_same _ _ ?_
  show (insRef ⟨#[]⟩ 0 s).data.toList = _
  rw [insRef_data]
  simp
theorem insS_empty_out (p : Int) (hp : p ≠ 0) (s : ByteArray) : insS ⟨#[]⟩ p s = ⟨#[]⟩ := by
  unfold insS
  rw [show inB (⟨#[]⟩ : ByteArray).size p = false from by unfold inB; have : (⟨#[]⟩ : ByteArray).size = 0 := rfl; simp; omega]
  rfl
theorem allOf_new (s : ByteArray) : allOf s [] (newL s.size) = s := ba_same _ _ (by show (body _ _ _).toArray.toList = _; rw [(newL_ok s).2.1])
theorem del_all (s : ByteArray) : total (delLL (newL s.size) s.size 0 s.size) = 0 := by
  obtain ⟨h1, h2, h3, h4⟩ := newL_ok s
  by_cases h0 : s.size = 0
  · unfold delLL
    rw [h0]
    rfl
  · obtain ⟨-, -, -, j4, -, -⟩ := delete_spec h1 0 s.size (Nat.zero_le _) (by omega)
    have e : delLL (newL s.size) s.size 0 s.size = deleteL (newL s.size) 0 s.size := by
      unfold delLL
      rw [if_pos (by unfold rightB; simp; omega)]
      rfl
    rw [e]
    omega
/-- Behind what is put in first: made compact, read, taken out. -/
structure Packed (w : World) (B T : Nat) (u : ByteArray) : Prop where
  tab : Tab w B T u [] (newL u.size)
theorem pack_any {w : World} {B T : Nat} (p : Int) (s u : ByteArray) (hu : insS ⟨#[]⟩ p s = u) (hs : s.size ≤ 140737488351232) (h : Tab w B T ⟨#[]⟩ (insD [] 0 p s) (insLL [] [] 0 p s)) :
    Calls Try.prog 35 #[.pointer (some ⟨T, 0, none⟩)] w fun e w' => e = .returned (.tuple #[]) ∧ Packed w' B T u ∧ Mine B w w' := by
  have g := good_ins p s
  have g0 := g.total
  have g1 := g.body; have g3 := g.add; have g4 := g.few; have g5 := g.steps; have g6 := g.put; have g7 := g.len; have g8 := g.first
  simp only [hu] at g0 g1 g3 g4 g5 g6 g7 g8
  refine (compact_any h (by omega) (by decide) (by omega) (by omega)).mono ?_
  rintro e w' ⟨rfl, h1, h2⟩
  refine ⟨rfl, ⟨?_⟩, h2⟩
  have e1 : allOf ⟨#[]⟩ (insD [] 0 p s) (insLL [] [] 0 p s) = u := ba_same _ _ (by show (body _ _ _).toArray.toList = _; rw [g1])
  rw [e1, g0] at h1
  exact h1
set_option maxHeartbeats 2000000 in
theorem nobody_in (s : ByteArray) (w : World) (hs : s.size ≤ 140737488351232) : Calls Try.prog 10 #[.int .i64 0, .string s] w fun e w' => e = .returned (.bool true) ∧ Below w.heap.size w w' := by
  have hz := tab_zero w
  have hb0 : Below w.heap.size w (w.alloc (.cells zeroCells 59)) := (Below.refl _ w).alloc (Nat.le_refl _) _
  unfold zeroCells at hz hb0
  have HZ := Lib.hid hz
  have HB0 := Lib.hid hb0
  clear hz hb0
  go_enter Try.func10, Try.ntmps10
  go_wp2_with fail
  go_at_call 33
  refine (insert_nil _ _ _).mono ?_
  rintro e w7 ⟨rfl, rfl⟩
  go_wp2_with fail
  go_at_call 34
  refine (delete_nil _ _ _).mono ?_
  rintro e w7 ⟨rfl, rfl⟩
  go_wp2_with fail
  go_at_call 31
  refine (len_nil _).mono ?_
  rintro e w7 ⟨rfl, rfl⟩
  go_wp2_with fail
  go_at_call 30
  refine (string_nil _).mono ?_
  rintro e w7 ⟨rfl, rfl⟩
  go_wp2_with fail
  go_at_call 27
  refine (slice_nil _ _ _).mono ?_
  rintro e w7 ⟨rfl, rfl⟩
  go_wp2_with fail
  go_at_call 29
  refine (pieces_nil _).mono ?_
  rintro e w7 ⟨rfl, rfl⟩
  go_wp2_with fail
  go_at_call 32
  refine (added_nil _).mono ?_
  rintro e w7 ⟨rfl, rfl⟩
  go_wp2_with fail
  go_at_call 35
  refine (compact_nil _).mono ?_
  rintro e w7 ⟨rfl, rfl⟩
  go_wp2_with fail
  go_at_call 33
  refine (tins_any HZ.out 0 rfl 0 s (by decide) (by decide) (by show 0 + s.size ≤ _; omega) (by omega)).mono ?_
  rintro e w1 ⟨rfl, hT1, hM1⟩
  have hpk := pack_any 0 s s (insS_empty_in s) hs hT1
  have HPK := Lib.hid hpk
  clear hpk hT1
  rw [show codeOf (inB 0 0) = 0 from rfl]
  go_wp2_with fail
  go_at_call 35
  refine HPK.out.mono ?_
  rintro e w2 ⟨rfl, hT2, hM2⟩
  have hT2 := hT2.tab
  obtain ⟨n1, n2, n3, n4⟩ := newL_ok s
  have hst := string_any hT2 (by omega) (by omega) (by decide) (by omega)
  rw [allOf_new] at hst
  have HST := Lib.hid hst
  have HT2 := Lib.hid hT2
  have N3 := Lib.hid n3
  have N4 := Lib.hid n4
  clear hst hT2 n1 n2 n3 n4
  go_wp2_with fail
  go_at_call 30
  refine HST.out.mono ?_
  rintro e w3 ⟨rfl, hb3⟩
  have hT3 := HT2.out.below hb3
  have hl3 := len_any hT3
  rw [N4.out] at hl3
  have HL3 := Lib.hid hl3
  have HT3 := Lib.hid hT3
  clear hl3 hT3
  go_wp2_with fail
  go_at_call 31
  refine HL3.out.mono ?_
  rintro e w4 ⟨rfl, rfl⟩
  go_wp2_with fail
  go_at_call 34
  have n3 := N3.out
  refine (tdel_any HT3.out s.size N4.out 0 s.size (by omega) (by omega) (by decide) (by omega)).mono ?_
  clear n3
  rintro e w5 ⟨rfl, hT5, hM5⟩
  have hl5 := len_any hT5
  rw [del_all s] at hl5
  have HL5 := Lib.hid hl5
  clear hl5 hT5
  rw [show codeOf (rightB s.size 0 s.size) = 0 from by unfold codeOf rightB; simp]
  go_wp2_with fail
  go_at_call 31
  refine HL5.out.mono ?_
  rintro e w6 ⟨rfl, rfl⟩
  go_wp2_with fail
  go_at_call 24
  refine (lives_any _).mono ?_
  rintro e w7 ⟨rfl, hb7⟩
  go_wp2_with fail
  go_ret
  have hA := ((HB0.out.trans hM1.1).trans hM2.1)
  have hB := (hA.trans (hb3.mono hA.size)).trans hM5.1
  exact ⟨rfl, hB.trans (hb7.mono hB.size)⟩
set_option maxHeartbeats 2000000 in
theorem nobody_out (p : Int) (hp : p ≠ 0) (s : ByteArray) (w : World) (hs : s.size ≤ 140737488351232) : Calls Try.prog 10 #[.int .i64 p, .string s] w fun e w' => e = .returned (.bool true) ∧ Below w.heap.size w w' := by
  have hz := tab_zero w
  have hb0 : Below w.heap.size w (w.alloc (.cells zeroCells 59)) := (Below.refl _ w).alloc (Nat.le_refl _) _
  unfold zeroCells at hz hb0
  have HZ := Lib.hid hz
  have HB0 := Lib.hid hb0
  clear hz hb0
  have hp0 : (p == 0) = false := by simpa using hp
  have hin : codeOf (inB 0 p) = 6 := by
    have : inB 0 p = false := by unfold inB; simp; omega
    rw [this]; rfl
  have HIN := Lib.hid hin
  clear hin
  go_enter Try.func10, Try.ntmps10
  go_wp2_with fail
  go_at_call 33
  refine (insert_nil _ _ _).mono ?_
  rintro e w7 ⟨rfl, rfl⟩
  go_wp2_with fail
  go_at_call 34
  refine (delete_nil _ _ _).mono ?_
  rintro e w7 ⟨rfl, rfl⟩
  go_wp2_with fail
  go_at_call 31
  refine (len_nil _).mono ?_
  rintro e w7 ⟨rfl, rfl⟩
  go_wp2_with fail
  go_at_call 30
  refine (string_nil _).mono ?_
  rintro e w7 ⟨rfl, rfl⟩
  go_wp2_with fail
  go_at_call 27
  refine (slice_nil _ _ _).mono ?_
  rintro e w7 ⟨rfl, rfl⟩
  go_wp2_with fail
  go_at_call 29
  refine (pieces_nil _).mono ?_
  rintro e w7 ⟨rfl, rfl⟩
  go_wp2_with fail
  go_at_call 32
  refine (added_nil _).mono ?_
  rintro e w7 ⟨rfl, rfl⟩
  go_wp2_with fail
  go_at_call 35
  refine (compact_nil _).mono ?_
  rintro e w7 ⟨rfl, rfl⟩
  go_wp2_with fail
  go_at_call 33
  refine (tins_any HZ.out 0 rfl p s (by decide) (by decide) (by show 0 + s.size ≤ _; omega) (by omega)).mono ?_
  rintro e w1 ⟨rfl, hT1, hM1⟩
  have hpk := pack_any p s ⟨#[]⟩ (insS_empty_out p hp s) hs hT1
  have HPK := Lib.hid hpk
  clear hpk hT1
  rw [HIN.out]
  go_wp2_with fail
  go_at_call 35
  refine HPK.out.mono ?_
  rintro e w2 ⟨rfl, hT2, hM2⟩
  have hT2 := hT2.tab
  have hst := string_any hT2 (by decide) (by decide) (by decide) (by decide)
  rw [allOf_new] at hst
  have HST := Lib.hid hst
  have HT2 := Lib.hid hT2
  clear hst hT2
  go_wp2_with fail
  go_at_call 30
  refine HST.out.mono ?_
  rintro e w3 ⟨rfl, hb3⟩
  have hT3 := HT2.out.below hb3
  have hl3 := len_any hT3
  rw [show total (newL (⟨#[]⟩ : ByteArray).size) = 0 from rfl] at hl3
  have HL3 := Lib.hid hl3
  have HT3 := Lib.hid hT3
  clear hl3 hT3
  go_wp2_with fail
  go_at_call 31
  refine HL3.out.mono ?_
  rintro e w4 ⟨rfl, rfl⟩
  go_wp2_with fail
  go_at_call 34
  refine (tdel_any HT3.out 0 rfl 0 0 (by decide) (by decide) (by decide) (by decide)).mono ?_
  rintro e w5 ⟨rfl, hT5, hM5⟩
  have hl5 := len_any hT5
  rw [show total (delLL (newL (⟨#[]⟩ : ByteArray).size) 0 0 0) = 0 from rfl] at hl5
  have HL5 := Lib.hid hl5
  clear hl5 hT5
  rw [show codeOf (rightB 0 0 0) = 0 from rfl]
  go_wp2_with fail
  go_at_call 31
  refine HL5.out.mono ?_
  rintro e w6 ⟨rfl, rfl⟩
  go_wp2_with fail
  go_at_call 24
  refine (lives_any _).mono ?_
  rintro e w7 ⟨rfl, hb7⟩
  go_wp2_with fail
  go_ret
  have hA := ((HB0.out.trans hM1.1).trans hM2.1)
  have hB := (hA.trans (hb3.mono hA.size)).trans hM5.1
  exact ⟨rfl, hB.trans (hb7.mono hB.size)⟩
theorem lawnobody_any (p : Int) (s : ByteArray) (w : World) (hs : s.size ≤ 140737488351232) : Calls Try.prog 10 #[.int .i64 p, .string s] w fun e w' => e = .returned (.bool true) ∧ Below w.heap.size w w' := by
  by_cases hp : p = 0
  · subst hp; exact nobody_in s w hs
  · exact nobody_out p hp s w hs

theorem Try.own : ownKnob Try.prog.godebug = none := by kernel_rfl
set_option maxRecDepth 100000 in
theorem pieceNobody_lifted (os : Os) (started : os.Started) (H : Type) (enc : TypeId × Value → H) :
    ReturnsInHanded {} Try.checked os 10 .any (Rows.pieceNobodySpec.pre6 enc Try.prog Try.f10 Rows.pieceNobodyRow.domain false) (Rows.pieceNobodySpec.post enc Try.prog Try.f10 false true false false) := by
  refine returnsInHanded_of_change_sized (C := Try.checked) Try.own started (by kernel_rfl) Try.func10
    (ChangeSpec.witness6 (enc := enc) (C := Try.checked) false ⟨#[], #[.int .i64 0, .string ⟨#[]⟩], []⟩ 8 (by kernel_rfl) (by kernel_rfl) (by kernel_rfl) (by kernel_rfl)) ?_
  intro W base args ds gs before hval0 hW hcnd hsz0 _
  have hval : ∀ (j : Nat) t v, Try.f10.params[j]? = some t → args[j]? = some v → Value.okWide Try.prog W .any base t v := hval0
  have hsz : (DataW.weightsEach Try.prog (Try.f10.params.toList ++ Rows.pieceNobodySpec.plain.varTypes Try.prog) (ds ++ gs)).all (· ≤ reachBytes) = true := hsz0
  have hW' := hW
  obtain ⟨p, q, hA0, hV, rfl, hfz, hnd⟩ := hW
  have hA : DataW.TrodAll enc Try.prog W 0 (fun _ => true) true Try.f10.params.toList args.toList ds p := hA0
  rw [Try.params10] at hA hval hsz
  obtain ⟨v0, v1, d0, d1, p0, p1, rfl, rfl, rfl, h0, h1⟩ := trodAll_two hA
  obtain ⟨rfl, rfl⟩ := trodVars_none hV
  obtain ⟨n, rfl, rfl, rfl, wn⟩ := open_int Try.underlying3 (hval 0 3 v0 rfl rfl) h0
  obtain ⟨s, rfl, rfl, rfl, hs⟩ := open_string Try.underlying9 (hval 1 9 v1 rfl rfl) h1
  clear hA0 hval0
  simp only [List.append_nil] at hW'
  have hs2 : s.size ≤ 140737488351232 := by
    have := sized_string hsz (j := 1) (t := 9) rfl rfl
    simpa [reachBytes] using this
  refine (lawnobody_any n s W hs2).mono fun e W' ⟨he, hw⟩ => ?_
  subst he
  exact ⟨_, rfl, _, _, _, [], [], [], hW', trodAll_mk1 (shut_bool Try.underlying4 true), trodAll_mk2 (shut_int Try.underlying3 wn) (shut_string Try.underlying9 hs), rfl, hw.frame _, fun h => by cases h⟩

theorem pieceNobody_holds : Rows.PieceNobodySaid :=
  OpenClaim.holds_of_wide 10 Try.f10 rfl rfl rfl rfl rfl rfl rfl ⟨rfl, rfl, rfl, rfl, rfl⟩ rfl rfl rfl rfl rfl (by kernel_rfl) Try.func10 (by kernel_rfl)
    (of_decide_eq_true (by kernel_rfl)) (by unfold Func.isWrapper; first | (rw [if_pos (by decide +kernel)]; kernel_rfl) | (rw [if_neg (by decide +kernel)]; exact ⟨rfl, rfl⟩))
    (fun os started H enc _ => pieceNobody_lifted os started H enc)
#print axioms pieceNobody_holds
end Go.Proofs.Ytckgmofgcddnaaa
