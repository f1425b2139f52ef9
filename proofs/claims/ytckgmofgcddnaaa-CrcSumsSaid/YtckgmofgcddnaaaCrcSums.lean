/- The law CrcSums is true for every input: the sum of any bytes, and of any bytes behind others, and the table, are as the document says. No condition. -/
import Derived.Test.YtckgmofgcddnaaaCrcWalks4
import Derived.ProofKit
namespace Go.Proofs.Ytckgmofgcddnaaa
open Go.ChangeShapes Go.WideShapes Go.ChangeAt Go.RowKit
open Go.ChangeMaps (open_string shut_string)

set_option maxRecDepth 100000 in
set_option maxHeartbeats 1000000 in
theorem lawsums_in (s : ByteArray) (n : Nat) (hn : n < 4294967296) (w : World) (hs : s.size ≤ maxLen) :
    Calls Try.prog 3 #[.string s, .int .i64 n] w fun e w' => e = .returned (.bool true) ∧ Below w.heap.size w w' := by
  go_enter Try.func3, Try.ntmps3
  go_wp2_with (first
    | (go_at_call 11; refine (sum1_any _ _ hs).mono ?_; rintro e w1 ⟨rfl, hb1⟩)
    | (go_at_call 12; refine (refsum_any _ _ hs).mono ?_; rintro e w2 ⟨rfl, rfl⟩)
    | (go_at_call 13; refine (more_in _ _ _ hn hs).mono ?_; rintro e w3 ⟨rfl, rfl⟩)
    | (go_at_call 14; refine (refmore_in _ _ _ hn hs).mono ?_; rintro e w4 ⟨rfl, rfl⟩)
    | (go_at_call 16; refine (table_any _).mono ?_; rintro e w5 ⟨g, c, rfl, hg5, hgl, hgc, hb5⟩)
    | (go_at_call 17; refine (reftable_any _).mono ?_; rintro e w6 ⟨h, d, rfl, hg6, hhl, hhc, hb6⟩)
    | (go_at_call 15; refine (same_any g c h d _ (fun j hj => (hb6.cell (p := ⟨g, j, none⟩) hgl).trans (hgc j hj)) hhc).mono ?_; rintro e w7 ⟨rfl, hb7⟩)
    | (go_at_call 18; refine (lawlives_any _).mono ?_; rintro e w8 ⟨rfl, hb8⟩))
  go_ret
  have b4 := hb1.trans ((runW_below w1).mono hb1.size)
  have b5 := b4.trans (hb5.mono b4.size)
  have b6 := b5.trans (hb6.mono b5.size)
  have b7 := b6.trans (hb7.mono b6.size)
  exact ⟨rfl, b7.trans (hb8.mono b7.size)⟩
set_option maxRecDepth 100000 in
set_option maxHeartbeats 1000000 in
theorem lawsums_out (s : ByteArray) (n : Int) (hn : n < 0 ∨ 4294967295 < n) (w : World) (hs : s.size ≤ maxLen) :
    Calls Try.prog 3 #[.string s, .int .i64 n] w fun e w' => e = .returned (.bool true) ∧ Below w.heap.size w w' := by
  have HN := Lib.hid hn
  clear hn
  go_enter Try.func3, Try.ntmps3
  go_wp2_with (first
    | (go_at_call 11; refine (sum1_any _ _ hs).mono ?_; rintro e w1 ⟨rfl, hb1⟩)
    | (go_at_call 12; refine (refsum_any _ _ hs).mono ?_; rintro e w2 ⟨rfl, rfl⟩)
    | (go_at_call 13; refine (more_out _ _ _ HN.out).mono ?_; rintro e w3 ⟨rfl, rfl⟩)
    | (go_at_call 14; refine (refmore_out _ _ _ HN.out).mono ?_; rintro e w4 ⟨rfl, rfl⟩)
    | (go_at_call 16; refine (table_any _).mono ?_; rintro e w5 ⟨g, c, rfl, hg5, hgl, hgc, hb5⟩)
    | (go_at_call 17; refine (reftable_any _).mono ?_; rintro e w6 ⟨h, d, rfl, hg6, hhl, hhc, hb6⟩)
    | (go_at_call 15; refine (same_any g c h d _ (fun j hj => (hb6.cell (p := ⟨g, j, none⟩) hgl).trans (hgc j hj)) hhc).mono ?_; rintro e w7 ⟨rfl, hb7⟩)
    | (go_at_call 18; refine (lawlives_any _).mono ?_; rintro e w8 ⟨rfl, hb8⟩))
  go_ret
  have b5 := hb1.trans (hb5.mono hb1.size)
  have b6 := b5.trans (hb6.mono b5.size)
  have b7 := b6.trans (hb7.mono b6.size)
  exact ⟨rfl, b7.trans (hb8.mono b7.size)⟩
theorem lawsums_any (s : ByteArray) (n : Int) (w : World) (hs : s.size ≤ maxLen) :
    Calls Try.prog 3 #[.string s, .int .i64 n] w fun e w' => e = .returned (.bool true) ∧ Below w.heap.size w w' := by
  by_cases h : n < 0 ∨ 4294967295 < n
  · exact lawsums_out s n h w hs
  · obtain ⟨m, rfl⟩ := Int.eq_ofNat_of_zero_le (a := n) (by omega)
    exact lawsums_in s m (by omega) w hs

theorem Try.own : ownKnob Try.prog.godebug = none := by kernel_rfl
theorem Try.laidOut : laidOutB Try.prog = true := by kernel_rfl

set_option maxRecDepth 100000 in
theorem crcSums_lifted (os : Os) (started : os.Started) (H : Type) (enc : TypeId × Value → H) :
    ReturnsInHanded {} Try.checked os 3 .any (Rows.crcSumsSpec.pre6 enc Try.prog Try.f3 Rows.crcSumsRow.domain false) (Rows.crcSumsSpec.post enc Try.prog Try.f3 false true false false) := by
  refine returnsInHanded_of_change (C := Try.checked) Try.own started (by kernel_rfl) Try.func3
    (ChangeSpec.witness6 (enc := enc) (C := Try.checked) false ⟨#[], #[.string ⟨#[]⟩, .int .i64 0], []⟩ 8 (by kernel_rfl) (by kernel_rfl) (by kernel_rfl) (by kernel_rfl)) ?_
  intro W base args ds gs before hval0 hW hcnd _
  have hval : ∀ (j : Nat) t v, Try.f3.params[j]? = some t → args[j]? = some v → Value.okWide Try.prog W .any base t v := hval0
  have hW' := hW
  obtain ⟨p, q, hA0, hV, rfl, hfz, hnd⟩ := hW
  have hA : DataW.TrodAll enc Try.prog W 0 (fun _ => true) true Try.f3.params.toList args.toList ds p := hA0
  rw [Try.params3] at hA hval
  obtain ⟨v0, v1, d0, d1, p0, p1, rfl, rfl, rfl, h0, h1⟩ := trodAll_two hA
  obtain ⟨rfl, rfl⟩ := trodVars_none hV
  obtain ⟨s, rfl, rfl, rfl, hs⟩ := open_string Try.underlying9 (hval 0 9 v0 rfl rfl) h0
  obtain ⟨n, rfl, rfl, rfl, wn⟩ := open_int Try.underlying3 (hval 1 3 v1 rfl rfl) h1
  clear hA0 hval0
  simp only [List.append_nil] at hW'
  refine (lawsums_any s n W hs).mono fun e W' ⟨he, hw⟩ => ?_
  subst he
  exact ⟨_, rfl, _, _, _, [], [], [], hW', trodAll_mk1 (shut_bool Try.underlying4 true), trodAll_mk2 (shut_string Try.underlying9 hs) (shut_int Try.underlying3 wn), rfl, hw.frame _, fun h => by cases h⟩

theorem crcSums_holds : Rows.CrcSumsSaid :=
  OpenClaim.holds_of_wide 3 Try.f3 rfl rfl rfl rfl rfl rfl rfl ⟨rfl, rfl, rfl, rfl, rfl⟩ rfl rfl rfl rfl rfl (by kernel_rfl) Try.func3 (by kernel_rfl)
    (of_decide_eq_true (by kernel_rfl)) (by unfold Func.isWrapper; first | (rw [if_pos (by decide +kernel)]; kernel_rfl) | (rw [if_neg (by decide +kernel)]; exact ⟨rfl, rfl⟩))
    (fun os started H enc _ => crcSums_lifted os started H enc)
#print axioms crcSums_holds
end Go.Proofs.Ytckgmofgcddnaaa
