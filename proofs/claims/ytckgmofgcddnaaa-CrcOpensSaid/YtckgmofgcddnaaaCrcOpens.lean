/- The law CrcOpens is true for every input: what is sealed, and what any bytes are when they are opened, is as the document says. No condition. -/
import Derived.Test.YtckgmofgcddnaaaCrcWalks4
import Derived.ProofKit
import Derived.SizedLaws
namespace Go.Proofs.Ytckgmofgcddnaaa
open Go.ChangeShapes Go.WideShapes Go.ChangeAt Go.RowKit
open Go.ChangeMaps (open_string shut_string)

set_option maxHeartbeats 1000000 in
theorem lawopens_no (s : ByteArray) (w : World) (hs : s.size ≤ 140737488351232) (h : s.size < 4) :
    Calls Try.prog 4 #[.string s] w fun e w' => e = .returned (.bool true) ∧ Below w.heap.size w w' := by
  go_enter Try.func4, Try.ntmps4
  go_wp2_with (first
    | (go_at_call 19; refine (open_no _ _ h).mono ?_; rintro e w1 ⟨rfl, rfl⟩)
    | (go_at_call 20; refine (refopen_no _ _ h).mono ?_; rintro e w2 ⟨rfl, rfl⟩)
    | (go_at_call 21; refine (sealit_any _ _ hs).mono ?_; rintro e w3 ⟨rfl, hb3⟩)
    | (go_at_call 22; refine (refsealit_any _ _ hs).mono ?_; rintro e w4 ⟨rfl, hb4⟩)
    | (go_at_call 18; refine (lawlives_any _).mono ?_; rintro e w5 ⟨rfl, hb5⟩))
  go_ret
  have b4 := hb3.trans (hb4.mono hb3.size)
  exact ⟨rfl, b4.trans (hb5.mono b4.size)⟩
set_option maxHeartbeats 1000000 in
theorem lawopens_yes (s : ByteArray) (w : World) (hs : s.size ≤ 140737488351232) (h : 4 ≤ s.size) :
    Calls Try.prog 4 #[.string s] w fun e w' => e = .returned (.bool true) ∧ Below w.heap.size w w' := by
  obtain ⟨T, hT⟩ : ∃ T : ByteArray, T = (if opens s then opened s else ⟨#[]⟩) := ⟨_, rfl⟩
  obtain ⟨E, hE⟩ : ∃ E : Int, E = (if opens s then 0 else 4) := ⟨_, rfl⟩
  have c1 : ∀ w, Calls Try.prog 19 #[.string s] w fun e w' => e = .returned (.tuple #[.string T, .int .i64 E]) ∧ Below w.heap.size w w' := fun w => by rw [hT, hE]; exact open_yes s w h hs
  have c2 : ∀ w, Calls Try.prog 20 #[.string s] w fun e w' => e = .returned (.tuple #[.string T, .int .i64 E]) ∧ Below w.heap.size w w' := fun w => by rw [hT, hE]; exact refopen_yes s w h hs
  have C1 := Lib.hid c1
  have C2 := Lib.hid c2
  clear hT hE c1 c2 h
  go_enter Try.func4, Try.ntmps4
  go_wp2_with (first
    | (go_at_call 19; refine (C1.out _).mono ?_; rintro e w1 ⟨rfl, hb1⟩)
    | (go_at_call 20; refine (C2.out _).mono ?_; rintro e w2 ⟨rfl, hb2⟩)
    | (go_at_call 21; refine (sealit_any _ _ hs).mono ?_; rintro e w3 ⟨rfl, hb3⟩)
    | (go_at_call 22; refine (refsealit_any _ _ hs).mono ?_; rintro e w4 ⟨rfl, hb4⟩)
    | (go_at_call 18; refine (lawlives_any _).mono ?_; rintro e w5 ⟨rfl, hb5⟩))
  go_ret
  have b2 := hb1.trans (hb2.mono hb1.size)
  have b3 := b2.trans (hb3.mono b2.size)
  have b4 := b3.trans (hb4.mono b3.size)
  exact ⟨rfl, b4.trans (hb5.mono b4.size)⟩
theorem lawopens_any (s : ByteArray) (w : World) (hs : s.size ≤ 140737488351232) :
    Calls Try.prog 4 #[.string s] w fun e w' => e = .returned (.bool true) ∧ Below w.heap.size w w' := by
  by_cases h : s.size < 4
  · exact lawopens_no s w hs h
  · exact lawopens_yes s w hs (by omega)

theorem Try.own : ownKnob Try.prog.godebug = none := by kernel_rfl
set_option maxRecDepth 100000 in
theorem crcOpens_lifted (os : Os) (started : os.Started) (H : Type) (enc : TypeId × Value → H) :
    ReturnsInHanded {} Try.checked os 4 .any (Rows.crcOpensSpec.pre6 enc Try.prog Try.f4 Rows.crcOpensRow.domain false) (Rows.crcOpensSpec.post enc Try.prog Try.f4 false true false false) := by
  refine returnsInHanded_of_change_sized (C := Try.checked) Try.own started (by kernel_rfl) Try.func4
    (ChangeSpec.witness6 (enc := enc) (C := Try.checked) false ⟨#[], #[.string ⟨#[]⟩], []⟩ 8 (by kernel_rfl) (by kernel_rfl) (by kernel_rfl) (by kernel_rfl)) ?_
  intro W base args ds gs before hval0 hW hcnd hsz0 _
  have hval : ∀ (j : Nat) t v, Try.f4.params[j]? = some t → args[j]? = some v → Value.okWide Try.prog W .any base t v := hval0
  have hsz : (DataW.weightsEach Try.prog (Try.f4.params.toList ++ Rows.crcOpensSpec.plain.varTypes Try.prog) (ds ++ gs)).all (· ≤ reachBytes) = true := hsz0
  have hW' := hW
  obtain ⟨p, q, hA0, hV, rfl, hfz, hnd⟩ := hW
  have hA : DataW.TrodAll enc Try.prog W 0 (fun _ => true) true Try.f4.params.toList args.toList ds p := hA0
  rw [Try.params4] at hA hval hsz
  obtain ⟨v0, d0, rfl, rfl, h0⟩ := trodAll_one hA
  obtain ⟨rfl, rfl⟩ := trodVars_none hV
  obtain ⟨s, rfl, rfl, rfl, hs⟩ := open_string Try.underlying9 (hval 0 9 v0 rfl rfl) h0
  clear hA0 hval0
  simp only [List.append_nil] at hW'
  have hs2 : s.size ≤ 140737488351232 := by
    have := sized_string hsz (j := 0) (t := 9) rfl rfl
    simpa [reachBytes] using this
  refine (lawopens_any s W hs2).mono fun e W' ⟨he, hw⟩ => ?_
  subst he
  exact ⟨_, rfl, _, _, _, [], [], [], hW', trodAll_mk1 (shut_bool Try.underlying4 true), trodAll_mk1 (shut_string Try.underlying9 hs), rfl, hw.frame _, fun h => by cases h⟩

theorem crcOpens_holds : Rows.CrcOpensSaid :=
  OpenClaim.holds_of_wide 4 Try.f4 rfl rfl rfl rfl rfl rfl rfl ⟨rfl, rfl, rfl, rfl, rfl⟩ rfl rfl rfl rfl rfl (by kernel_rfl) Try.func4 (by kernel_rfl)
    (of_decide_eq_true (by kernel_rfl)) (by unfold Func.isWrapper; first | (rw [if_pos (by decide +kernel)]; kernel_rfl) | (rw [if_neg (by decide +kernel)]; exact ⟨rfl, rfl⟩))
    (fun os started H enc _ => crcOpens_lifted os started H enc)
#print axioms crcOpens_holds
end Go.Proofs.Ytckgmofgcddnaaa
