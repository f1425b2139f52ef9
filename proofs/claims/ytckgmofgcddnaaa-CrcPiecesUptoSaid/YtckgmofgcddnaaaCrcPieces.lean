/- The law CrcPieces is true for every input of bulk at most 1048576: it does not matter in which pieces bytes come; what is sealed is opened. -/
import Derived.Test.YtckgmofgcddnaaaCrcWalks4
import Derived.ProofKit
import Derived.SizedLaws
import Derived.JoinedCond
namespace Go.Proofs.Ytckgmofgcddnaaa
open Go.ChangeShapes Go.WideShapes Go.ChangeAt Go.RowKit
open Go.ChangeMaps (open_string shut_string)

set_option maxHeartbeats 400000 in
theorem sum_none (a : Option Addr) (c : Nat) (w : World) :
    Calls Try.prog 11 #[.slice a 0 c] w fun e w' => e = .returned (.int .i64 0) ∧ w = w' := by
  have hx : bits .xor .u32 4294967295 4294967295 = 0 := xorfull 4294967295 (by decide)
  go_enter Try.func11, Try.ntmps11
  go_wp2_with fail
  refine wp_loop_rounds 1 ?_
  rw [rounds_succ]
  go_wp2
  go_ret
  exact ⟨rfl, rfl⟩
theorem opens_sealed' (t : ByteArray) : opens (sealed' t) = true := by
  have h1 : (sealed' t).size = t.size + 4 := by have := congrArg List.length (sealed_data t); rw [List.length_append, sumBytes_length, Array.length_toList, Array.length_toList] at this; exact this
  unfold opens
  rw [h1, sealed_data, Nat.add_sub_cancel, List.take_left', List.drop_left']
  · simp
  · simp
  · simp
theorem opened_sealed (t : ByteArray) : opened (sealed' t) = t := by
  have h1 : (sealed' t).size = t.size + 4 := by have := congrArg List.length (sealed_data t); rw [List.length_append, sumBytes_length, Array.length_toList, Array.length_toList] at this; exact this
  apply ba_ext
  rw [opened_data, h1, sealed_data, Nat.add_sub_cancel, List.take_left']
  simp
theorem sealed_size (t : ByteArray) : (sealed' t).size = t.size + 4 := by
  have := congrArg List.length (sealed_data t); rw [List.length_append, sumBytes_length, Array.length_toList, Array.length_toList] at this; exact this
/-- What is sealed is opened. -/
theorem open_sealed (t : ByteArray) (w : World) (ht : t.size ≤ 1048576) :
    Calls Try.prog 19 #[.string (sealed' t)] w fun e w' => e = .returned (.tuple #[.string t, .int .i64 0]) ∧ Below w.heap.size w w' := by
  have h1 := sealed_size t
  have h3 := open_yes (sealed' t) w (by omega) (by omega)
  refine h3.mono ?_
  rintro e w' ⟨he, hb⟩
  rw [opens_sealed', opened_sealed] at he
  exact ⟨he, hb⟩
/-- What stands behind the loop: all bytes are known. -/
def Whole (l : List ByteArray) (k : Nat) (t : Value) (x : Value) : Prop := ∃ u : ByteArray, t = .string u ∧ u.data.toList = flat (l.take k) ∧ x = .int .i64 (crcSum (flat (l.take k)) : Nat)
theorem flat_le (l : List ByteArray) (k : Nat) : (flat (l.take k)).length ≤ (flat l).length := by
  have h : flat l = flat (l.take k) ++ flat (l.drop k) := by
    unfold flat
    rw [← List.flatten_append, ← List.map_append, List.take_append_drop]
  rw [h, List.length_append]
  omega
theorem size_le_flat (l : List ByteArray) (k : Nat) (h : k < l.length) : (l[k]).size ≤ (flat l).length := by
  have h1 := flat_le l (k + 1)
  rw [flat_take_succ l k h, List.length_append] at h1
  have : (l[k]).data.toList.length = (l[k]).size := by rw [Array.length_toList]; rfl
  omega
set_option maxHeartbeats 1000000 in
theorem pieces_some (b off c : Nat) (l : List ByteArray) (w : World) (hc : ∀ j, j < l.length → w.cell? ⟨b, off + j, none⟩ = some (.string (l.getD j ByteArray.empty))) (hl : (flat l).length ≤ 1048576) (hm : l.length ≤ 1048576) (hb : b < w.heap.size) :
    Calls Try.prog 6 #[.slice (some ⟨b, off, none⟩) l.length c] w fun e w' => e = .returned (.bool true) ∧ Below w.heap.size w w' := by
  go_enter Try.func6, Try.ntmps6
  go_wp2_with fail
  go_loopw [3, 4, 5] (fun t x i wr => ∃ k : Nat, k ≤ l.length ∧ i = .int .i64 k ∧ Whole l k t x ∧ Below w.heap.size w wr) (fun _ _ i _ => l.length - (intOf i).toNat)
  case atStart => exact ⟨0, Nat.zero_le _, rfl, ⟨⟨#[]⟩, rfl, rfl, by simp [flat, crcSum_nil]⟩, Below.refl _ _⟩
  case round =>
    obtain ⟨k, hk, rfl, ⟨t, rfl, ht, rfl⟩, hbel⟩ := hrel
    have htl : t.size ≤ 1048576 := by
      have h1 := congrArg List.length ht
      have h2 := flat_le l k
      rw [Array.length_toList] at h1
      have : t.data.size = t.size := rfl
      omega
    have HT := Lib.hid ht
    clear ht
    by_cases hlt : k < l.length
    · have hcell : wr.cell? ⟨b, off + k, none⟩ = some (.string (l.getD k ByteArray.empty)) := (hbel.cell (p := ⟨b, off + k, none⟩) hb).trans (hc k hlt)
      obtain ⟨s, hs⟩ : ∃ s, s = l.getD k ByteArray.empty := ⟨_, rfl⟩
      have hs2 : s = l[k] := by rw [hs]; simp [hlt]
      have hsz : s.size ≤ 1048576 := by rw [hs2]; have := size_le_flat l k hlt; omega
      have HN : Hid (flat (l.take (k + 1)) = flat (l.take k) ++ s.data.toList) := by rw [Hid, flat_take_succ l k hlt, hs2]
      have hR := crcSum_lt (flat (l.take k))
      rw [← hs] at hcell
      clear hs hs2 hc
      go_wp2_with (go_at_call 13; refine (more_in _ _ _ hR (by unfold maxLen; omega)).mono ?_; rintro e w' ⟨rfl, rfl⟩)
      go_roundw
      case rel => exact ⟨k + 1, by omega, by go_num, ⟨t ++ s, rfl, by rw [HN.out, ← HT.out]; simp, by rw [crcMore_sum, HN.out]⟩, hbel.trans ((runW_below wr).mono hbel.size)⟩
      case measure => simp [intOf]; omega
    · have e : l.take k = l := List.take_of_length_le (by omega)
      rw [e]
      have ht2 : flat l = t.data.toList := by rw [HT.out, e]
      have hcr : ∀ j, j < l.length → wr.cell? ⟨b, off + j, none⟩ = some (.string (l.getD j ByteArray.empty)) := fun j hj => (hbel.cell (p := ⟨b, off + j, none⟩) hb).trans (hc j hj)
      have hs1 := fun (wx : World) (h : Below wr.heap.size wr wx) => sum_any b off c l wx (fun j hj => (h.cell (p := ⟨b, off + j, none⟩) (by have := hbel.size; show b < wr.heap.size; omega)).trans (hcr j hj)) (fun s hs => by
        obtain ⟨j, hj, rfl⟩ := List.mem_iff_getElem.1 hs
        have := size_le_flat l j hj
        unfold maxLen
        omega) (by omega) (by have := hbel.size; have := h.size; omega)
      rw [ht2]
      simp only [ht2] at hs1
      have H1 := Lib.hid hs1
      clear hc hcr hs1 ht2
      go_wp2_with (first
        | (go_at_call 21; refine (sealit_any _ _ (by omega)).mono ?_; rintro e w1 ⟨rfl, hb1⟩)
        | (go_at_call 19; refine (open_sealed _ _ htl).mono ?_; rintro e w2 ⟨rfl, hb2⟩)
        | (go_at_call 11; with_reducible refine (H1.out _ (hb1.trans (hb2.mono hb1.size))).mono ?_; rintro e w3 ⟨rfl, hb3⟩)
        | (go_at_call 11; with_reducible refine (sum1_any _ _ (by unfold maxLen; omega)).mono ?_; rintro e w4 ⟨rfl, hb4⟩)
        | (go_at_call 18; refine (lawlives_any _).mono ?_; rintro e w5 ⟨rfl, hb5⟩))
      go_ret
      have b1 := hbel.trans (hb1.mono hbel.size)
      have b2 := b1.trans (hb2.mono b1.size)
      have b3 := b2.trans (hb3.mono b2.size)
      have b4 := b3.trans (Below.mono ‹Below w3.heap.size w3 _› b3.size)
      have b5 := b4.trans (hb4.mono b4.size)
      exact ⟨rfl, b5.trans (hb5.mono b5.size)⟩

set_option maxHeartbeats 1000000 in
theorem pieces_none (a : Option Addr) (c : Nat) (w : World) :
    Calls Try.prog 6 #[.slice a 0 c] w fun e w' => e = .returned (.bool true) ∧ Below w.heap.size w w' := by
  have h0 : crcSum (ByteArray.mk #[]).data.toList = 0 := rfl
  have hs1 := fun wx => sum1_any ⟨#[]⟩ wx (by decide)
  rw [h0] at hs1
  have H1 := Lib.hid hs1
  clear hs1 h0
  go_enter Try.func6, Try.ntmps6
  go_wp2_with fail
  refine wp_loop_rounds 1 ?_
  rw [rounds_succ]
  go_wp2_with (first
        | (go_at_call 21; refine (sealit_any _ _ (by decide)).mono ?_; rintro e w1 ⟨rfl, hb1⟩)
        | (go_at_call 19; refine (open_sealed _ _ (by decide)).mono ?_; rintro e w2 ⟨rfl, hb2⟩)
        | (go_at_call 11; with_reducible refine (sum_none _ _ _).mono ?_; rintro e w3 ⟨rfl, rfl⟩)
        | (go_at_call 11; with_reducible refine (H1.out _).mono ?_; rintro e w4 ⟨rfl, hb4⟩)
        | (go_at_call 18; refine (lawlives_any _).mono ?_; rintro e w5 ⟨rfl, hb5⟩))
  go_ret
  have b2 := hb1.trans (hb2.mono hb1.size)
  have b4 := b2.trans (Below.mono ‹Below w2.heap.size w2 _› b2.size)
  have b5 := b4.trans (hb4.mono b4.size)
  exact ⟨rfl, b5.trans (hb5.mono b5.size)⟩

theorem strings_at {w : World} {a : Addr} {l : List ByteArray} (h : ∀ i, i < l.length → w.cell? (a.add i) = some (.string (l.getD i ByteArray.empty))) (hp : 0 < l.length) :
    ∃ b off, a = ⟨b, off, none⟩ ∧ ∀ j, j < l.length → w.cell? ⟨b, off + j, none⟩ = some (.string (l.getD j ByteArray.empty)) := by
  obtain ⟨b, off, spot⟩ := a
  have hspot : spot = none := by simpa [Addr.add] using World.cell?_spot (h 0 hp)
  subst hspot
  exact ⟨b, off, rfl, fun j hj => by rw [← Go.WideShapes.add_plain]; exact h j hj⟩
theorem pieces_any (a : Addr) (c : Nat) (l : List ByteArray) (w : World) (hc : ∀ i, i < l.length → w.cell? (a.add i) = some (.string (l.getD i ByteArray.empty))) (hl : (flat l).length ≤ 1048576) (hm : l.length ≤ 1048576) :
    Calls Try.prog 6 #[.slice (some a) l.length c] w fun e w' => e = .returned (.bool true) ∧ Below w.heap.size w w' := by
  by_cases h : 0 < l.length
  · obtain ⟨b, off, rfl, hx⟩ := strings_at hc h
    exact pieces_some b off c l w hx hl hm (block_lt_of_cell (hx 0 h))
  · rw [show l.length = 0 from by omega]
    exact pieces_none (some a) c w

/-- What the bound gives. -/
theorem bulk_strs {H : Type} (l : List ByteArray) : l.length + (flat l).length ≤ Rows.uptoBulkAll (strs (H := H) l) := by
  induction l with
  | nil => simp [flat]
  | cons s l ih =>
    simp only [strs, List.map_cons, Rows.uptoBulkAll, Rows.uptoBulk, List.length_cons]
    have : (flat (s :: l)).length = s.data.toList.length + (flat l).length := by simp [flat]
    rw [this]
    have h2 : Rows.uptoBulkAll (strs (H := H) l) = Rows.uptoBulkAll (List.map (fun s : ByteArray => (DataW.lit (.string s.data.toList) : DataW H)) l) := rfl
    omega

theorem Try.own : ownKnob Try.prog.godebug = none := by kernel_rfl
theorem Try.laidOut : laidOutB Try.prog = true := by kernel_rfl
theorem cells9 : Try.prog.cellsOf 9 = 1 := by kernel_rfl
theorem pieces_contract (H : Type) (enc : TypeId × Value → H) (W : World) (base : Nat) (args : Array Value) (ds gs : List (DataW H)) (before : List MemPlace)
    (hval : ∀ (j : Nat) t v, Try.f6.params[j]? = some t → args[j]? = some v → Value.okWide Try.prog W .any base t v)
    (hW : DataW.Whole enc Try.prog Try.f6.params.toList Rows.crcPiecesSpec.vars false W args.toList ds gs before) (hk : Rows.uptoSmall H (ds ++ gs) = true) :
    Calls Try.prog 6 args W fun e W' => ∃ v, e = .returned v ∧ Rows.crcPiecesSpec.post enc Try.prog Try.f6 false true false false W args v W' := by
  have hW' := hW
  obtain ⟨p, q, hA0, hV, rfl, hfz, hnd⟩ := hW
  have hA : DataW.TrodAll enc Try.prog W 0 (fun _ => true) true Try.f6.params.toList args.toList ds p := hA0
  rw [Try.params6] at hA hval
  obtain ⟨v0, d0, rfl, rfl, h0⟩ := trodAll_one hA
  obtain ⟨rfl, rfl⟩ := trodVars_none hV
  clear hA0
  have h0k := h0
  have hlt : ∀ x ∈ p, x.block < W.heap.size := fun x hx => hW'.lt x (by simpa using hx)
  obtain ⟨a0, len, cap, rfl⟩ := okWide_slice Try.underlying40 (hval 0 40 v0 rfl rfl)
  have fin : ∀ (e : Ending) (W' : World), (e = .returned (.bool true) ∧ Below W.heap.size W W') → ∃ v, e = .returned v ∧ Rows.crcPiecesSpec.post enc Try.prog Try.f6 false true false false W #[.slice a0 len cap] v W' := by
    rintro e W' ⟨rfl, hb⟩
    exact ⟨_, rfl, _, _, _, [], _, [], hW', trodAll_mk1 (shut_bool Try.underlying4 true), trodAll_mk1 (Below.trod Try.laidOut (by kernel_rfl) (of_decide_eq_true (by kernel_rfl)) h0k hb hlt), rfl, hb.frame _, fun h => by cases h⟩
  have hbd : Rows.uptoBulkAll ([d0] ++ ([] : List (DataW H))) ≤ 1048576 := of_decide_eq_true hk
  obtain ⟨fuel, hf⟩ := h0
  rcases open_strings Try.underlying40 Try.underlying9 cells9 hf with ⟨hcs, hx⟩ | ⟨a, len', cap', ss, hcs, _, hl, hm, hz, hx, hcell, hws⟩
  · simp [Value.cells] at hcs
    obtain ⟨rfl, rfl, rfl⟩ := hcs
    exact (pieces_none none 0 W).mono fin
  · simp [Value.cells] at hcs
    obtain ⟨rfl, rfl, rfl⟩ := hcs
    obtain ⟨hd, _⟩ := Prod.mk.inj hx
    subst hd
    have hlen : (ss.take len).length = len := by rw [List.length_take]; simp at hz; omega
    have h1 := bulk_strs (H := H) (ss.take len)
    simp only [List.append_nil, Rows.uptoBulkAll, Rows.uptoBulk] at hbd
    have h := pieces_any a cap (ss.take len) W (fun i hi => by
      rw [hcell i (by rw [List.length_take] at hi; omega)]
      simp only [List.getD, List.getElem?_take, if_pos (show i < len by omega)]) (by omega) (by omega)
    rw [hlen] at h
    exact h.mono fin

set_option maxRecDepth 100000 in
theorem crcPiecesUpto_lifted (os : Os) (started : os.Started) (H : Type) (enc : TypeId × Value → H) (F : Stop.Interp) :
    ReturnsInHanded {} Try.checked os 6 .any ((Rows.OpenSpec.upto Rows.crcPiecesSpec).pre6 enc Try.prog Try.f6 Rows.crcPiecesUptoRow.domain false) (((Rows.OpenSpec.upto Rows.crcPiecesSpec).at F).post enc Try.prog Try.f6 false true false false) := by
  refine returnsInHanded_of_cond (C := Try.checked) (s := Rows.OpenSpec.upto Rows.crcPiecesSpec) (k := Rows.uptoSmall) rfl Try.own started (by kernel_rfl) Try.func6
    (OpenSpec.witness (enc := enc) (C := Try.checked) (s := Rows.OpenSpec.upto Rows.crcPiecesSpec) (k := Rows.uptoSmall) rfl false ⟨#[], #[.slice none 0 0], []⟩ 8 (by kernel_rfl) (by kernel_rfl) (by kernel_rfl)
      (x := ([.nil], [], [])) (by kernel_rfl) rfl (by kernel_rfl)) ?_
  intro W base args ds gs before hval hW _ hk _
  exact pieces_contract H enc W base args ds gs before hval hW hk

theorem crcPiecesUpto_holds : Rows.CrcPiecesUptoSaid :=
  OpenClaim.holds_of_cond 6 Try.f6 rfl rfl rfl rfl rfl rfl rfl ⟨rfl, rfl, rfl, rfl, rfl⟩ rfl rfl rfl rfl rfl (by kernel_rfl) Try.func6 (by kernel_rfl)
    (of_decide_eq_true (by kernel_rfl)) (by unfold Func.isWrapper; first | (rw [if_pos (by decide +kernel)]; kernel_rfl) | (rw [if_neg (by decide +kernel)]; exact ⟨rfl, rfl⟩))
    (fun os started H enc _ F => crcPiecesUpto_lifted os started H enc F)
#print axioms crcPiecesUpto_holds
end Go.Proofs.Ytckgmofgcddnaaa
