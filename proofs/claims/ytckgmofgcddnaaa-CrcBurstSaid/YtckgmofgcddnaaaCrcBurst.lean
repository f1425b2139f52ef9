/- The law CrcBurst is true for every input: where bits within 32 in a row are turned, the sum is another one, and what was sealed is not opened. No condition. -/
import Derived.Test.YtckgmofgcddnaaaCrcWalks4
import Derived.BigRegion
import Derived.ProofKit
import Derived.SizedLaws
import Derived.OpenShut
namespace Go.Proofs.Ytckgmofgcddnaaa
open Go.ChangeShapes Go.WideShapes Go.ChangeAt Go.RowKit
open Go.ChangeMaps (open_string shut_string)

/-- A block's cells are these bytes, and may be written. -/
def BytesAt (w : World) (b : Nat) (l : List UInt8) : Prop := ∀ j, j < l.length → w.cell? ⟨b, j, none⟩ = some (.int .u8 ((l.getD j 0).toNat : Int)) ∧ w.frozen? ⟨b, j, none⟩ = false
theorem bytesAt_made (s : ByteArray) (w : World) (cap : Nat) : BytesAt (w.alloc (.cells (bytesRow s cap) 5 ((bytesRow s cap).size, (bytesRow s cap).size + 1))).drew w.heap.size s.data.toList := by
  intro j hj
  have hj2 : j < s.data.size := by simpa using hj
  have hsz : s.data.size ≤ (bytesRow s cap).size := by simp [bytesRow]
  constructor
  · show (w.alloc (.cells (bytesRow s cap) 5 ((bytesRow s cap).size, (bytesRow s cap).size + 1))).cell? _ = _
    rw [World.cell?_alloc_mark, bytesRow_at s cap j hj2]
    simp only [List.getD, Array.getElem?_toList, Array.getElem?_eq_getElem hj2, Option.getD_some]
  · show (w.alloc (.cells (bytesRow s cap) 5 ((bytesRow s cap).size, (bytesRow s cap).size + 1))).frozen? _ = _
    rw [World.frozen?_alloc_mark]
    simp
    omega
theorem bytesAt_set {w : World} {b : Nat} {l : List UInt8} (h : BytesAt w b l) (j : Nat) (hj : j < l.length) (x : Int) (c : UInt8) (hx : x = (c.toNat : Int)) :
    BytesAt (w.setCell ⟨b, j, none⟩ (.int .u8 x)).drew b (l.set j c) := by
  subst hx
  intro k hk
  have hk2 : k < l.length := by simpa using hk
  constructor
  · show (w.setCell ⟨b, j, none⟩ (.int .u8 (c.toNat : Int))).cell? _ = _
    by_cases e : j = k
    · subst e
      rw [World.cell?_setCell_same _ _ _ (h j hj).1]
      simp [List.getD, hj]
    · rw [World.cell?_setCell_other _ _ _ _ (by intro e2; injection e2 with _ e3 _; exact e e3), (h k hk2).1]
      simp [List.getD, e]
  · show (w.setCell ⟨b, j, none⟩ (.int .u8 (c.toNat : Int))).frozen? _ = _
    rw [World.frozen?_setCell]
    exact (h k hk2).2
theorem bytesAt_below {w w' : World} {b B : Nat} {l : List UInt8} (h : BytesAt w b l) (hb : Below B w w') (hB : b < B) : BytesAt w' b l := fun j hj =>
  ⟨(hb.cell (p := ⟨b, j, none⟩) hB).trans (h j hj).1, (hb.frozen (p := ⟨b, j, none⟩) hB).trans (h j hj).2⟩
theorem bytesAt_conv {w : World} {b : Nat} {l : List UInt8} (h : BytesAt w b l) (n : Nat) (hn : l.length = n) (cap : Nat) :
    (convert 38 9 (.slice (some ⟨b, 0, none⟩) n cap)).run Try.prog w = .ok (.string ⟨l.toArray⟩) w := by
  subst hn
  refine run_convert_bytes_back (l := l) _ 38 9 5 ⟨b, 0, none⟩ cap Try.underlying38 Try.underlying5 Try.underlying9 ?_
  intro j hj
  have e : (⟨b, 0, none⟩ : Addr).add j = ⟨b, j, none⟩ := by unfold Addr.add; split <;> simp_all
  rw [e, (h j hj).1]
  simp [List.getD, hj]

/-- Has a bit been turned? -/
def turnedB (m i : Nat) : Bool := decide (m % 2 ^ i ≠ 0)
def Burst (s : ByteArray) (p m : Nat) (w : World) (i : Nat) (t : Value) (wr : World) : Prop :=
  ∃ l : List UInt8, l.length = s.size ∧ big l = big s.data.toList ^^^ (2 ^ p * (m % 2 ^ i)) ∧ t = .bool (turnedB m i) ∧ BytesAt wr w.heap.size l ∧ Below w.heap.size w wr ∧ w.heap.size < wr.heap.size
theorem mod_pow_succ (m i : Nat) : m % 2 ^ (i + 1) = m % 2 ^ i + 2 ^ i * (m / 2 ^ i % 2) := by
  rw [Nat.pow_succ, Nat.mod_mul]
theorem bit_is (m i : Nat) (hm : m < 4294967296) : bits .and .u32 ((m : Int) / 2 ^ i) 1 = ((m / 2 ^ i % 2 : Nat) : Int) := by
  have e : ((m : Int) / 2 ^ i) = ((m / 2 ^ i : Nat) : Int) := by push_cast; rfl
  rw [e]
  exact and1_u32 _ (Nat.lt_of_le_of_lt (Nat.div_le_self _ _) hm)
theorem burst_skip (s : ByteArray) (p m i : Nat) (hm : m < 4294967296) (w wr : World) (h : Burst s p m w i (.bool (turnedB m i)) wr) (t : (bits .and .u32 ((m : Int) / 2 ^ i) 1 == 1) = false) :
    Burst s p m w (i + 1) (.bool (turnedB m i)) wr := by
  have h0 : m / 2 ^ i % 2 = 0 := by
    rw [bit_is m i hm] at t
    rcases Nat.mod_two_eq_zero_or_one (m / 2 ^ i) with e | e
    · exact e
    · rw [e] at t; simp at t
  have e : m % 2 ^ (i + 1) = m % 2 ^ i := by rw [mod_pow_succ, h0]; simp
  obtain ⟨l, h1, h2, h3, h4⟩ := h
  refine ⟨l, h1, ?_, ?_, h4⟩
  · rw [e]; exact h2
  · unfold turnedB; rw [e]
theorem burst_turn (s : ByteArray) (p m i : Nat) (hm : m < 4294967296) (w wr : World) (l : List UInt8) (hl : l.length = s.size) (hbig : big l = big s.data.toList ^^^ (2 ^ p * (m % 2 ^ i)))
    (hat : BytesAt wr w.heap.size l) (hbel : Below w.heap.size w wr) (hsz : w.heap.size < wr.heap.size) (hq : (p + i) / 8 < l.length) (c : Nat) (hc : c = (l.getD ((p + i) / 8) 0).toNat)
    (t : (bits .and .u32 ((m : Int) / 2 ^ i) 1 == 1) = true) :
    Burst s p m w (i + 1) (.bool true) (wr.setCell ⟨w.heap.size, (p + i) / 8, none⟩ (.int .u8 (bits .xor .u8 (c : Int) (2 ^ ((p + i) % 8) % 256)))).drew := by
  have h1 : m / 2 ^ i % 2 = 1 := by
    rw [bit_is m i hm] at t
    have := eq_of_beq t
    omega
  have hv : 2 ^ ((p + i) % 8) < 256 := by
    have : (p + i) % 8 < 8 := Nat.mod_lt _ (by decide)
    calc 2 ^ ((p + i) % 8) < 2 ^ 8 := Nat.pow_lt_pow_right (by decide) this
      _ = 256 := rfl
  have hcb : c < 256 := by rw [hc]; exact byte_lt _
  have hxb : c ^^^ 2 ^ ((p + i) % 8) < 256 := Nat.xor_lt_two_pow (n := 8) hcb hv
  have hval : bits .xor .u8 (c : Int) (2 ^ ((p + i) % 8) % 256) = ((UInt8.ofNat ((l.getD ((p + i) / 8) 0).toNat ^^^ 2 ^ ((p + i) % 8))).toNat : Int) := by
    have e : ((2 : Int) ^ ((p + i) % 8) % 256) = ((2 ^ ((p + i) % 8) : Nat) : Int) := by
      have : ((2 : Int) ^ ((p + i) % 8)) = ((2 ^ ((p + i) % 8) : Nat) : Int) := by push_cast; rfl
      rw [this]; exact (fun (V : Nat) (h : V < 256) => by omega : ∀ V : Nat, V < 256 → ((V : Int) % 256) = V) _ hv
    rw [e, u8_xor_nat _ _ hcb hv, ← hc, UInt8.toNat_ofNat']
    omega
  refine ⟨l.set ((p + i) / 8) (UInt8.ofNat ((l.getD ((p + i) / 8) 0).toNat ^^^ 2 ^ ((p + i) % 8))), by simpa using hl, ?_, ?_, bytesAt_set hat _ hq _ _ hval, (hbel.setCell (Nat.le_refl _) _).drew, ?_⟩
  · rw [big_set _ hv l _ hq, hbig, Nat.xor_assoc]
    have e1 : 256 ^ ((p + i) / 8) * 2 ^ ((p + i) % 8) = 2 ^ (p + i) := by
      have : (256 : Nat) = 2 ^ 8 := rfl
      rw [this, ← Nat.pow_mul, ← Nat.pow_add]
      congr 1
      omega
    have hlo : m % 2 ^ i < 2 ^ i := Nat.mod_lt _ (Nat.two_pow_pos i)
    have e2 : m % 2 ^ (i + 1) = (m % 2 ^ i) ^^^ 2 ^ i := by
      rw [mod_pow_succ, h1, Nat.mul_one]
      have h2 := split_xor i (m % 2 ^ i + 2 ^ i)
      have e3 : (m % 2 ^ i + 2 ^ i) / 2 ^ i = 1 := by
        rw [Nat.add_div_right _ (Nat.two_pow_pos i), Nat.div_eq_of_lt hlo]
      have e4 : (m % 2 ^ i + 2 ^ i) % 2 ^ i = m % 2 ^ i := by rw [Nat.add_mod_right, Nat.mod_eq_of_lt hlo]
      rw [e3, e4, Nat.mul_one, Nat.xor_comm] at h2
      exact h2
    rw [e1, e2, Nat.pow_add]
    congr 1
    have h3 := Nat.shiftLeft_xor_distrib (a := m % 2 ^ i) (b := 2 ^ i) (i := p)
    simp only [Nat.shiftLeft_eq] at h3
    rw [Nat.mul_comm (2 ^ p) (m % 2 ^ i ^^^ 2 ^ i), h3, Nat.mul_comm (m % 2 ^ i), Nat.mul_comm (2 ^ i) (2 ^ p)]
  · unfold turnedB
    rw [mod_pow_succ, h1]
    simp
  · show w.heap.size < (wr.setCell _ _).heap.size
    simpa [World.setCell] using hsz
theorem burst_unturned (s : ByteArray) (p m i : Nat) (l : List UInt8) (hl : l.length = s.size) (hbig : big l = big s.data.toList ^^^ (2 ^ p * (m % 2 ^ i))) (t : turnedB m i = false) : l = s.data.toList := by
  have h0 : m % 2 ^ i = 0 := by simpa [turnedB] using t
  rw [h0, Nat.mul_zero, Nat.xor_zero] at hbig
  exact big_inj _ _ (by rw [hl]; simp) hbig
theorem burst_turned (s : ByteArray) (p m i : Nat) (hp : p < 8 * s.size) (hi : i ≤ 32) (l : List UInt8) (hl : l.length = s.size) (hbig : big l = big s.data.toList ^^^ (2 ^ p * (m % 2 ^ i))) (t : turnedB m i = true) :
    crcSum l ≠ crcSum s.data.toList := by
  have h0 : m % 2 ^ i ≠ 0 := by simpa [turnedB] using t
  have hlen : s.data.toList.length = s.size := by simp
  refine crcSum_burst p (m % 2 ^ i) s.data.toList l (by rw [hl, hlen]) hbig ?_ h0 (by rw [hlen]; omega)
  have h1 : m % 2 ^ i < 2 ^ i := Nat.mod_lt _ (Nat.two_pow_pos i)
  have h2 : 2 ^ i ≤ 2 ^ 32 := Nat.pow_le_pow_right (by decide) hi
  omega
/-- Other bytes, with the sum of the old ones behind. -/
theorem burst_data (s : ByteArray) (l : List UInt8) : ((⟨l.toArray⟩ : ByteArray) ++ (sealed' s).extract s.size (sealed' s).size).data.toList = l ++ sumBytes (crcSum s.data.toList) := by
  have e : ((⟨l.toArray⟩ : ByteArray) ++ (sealed' s).extract s.size (sealed' s).size).data.toList = l ++ ((sealed' s).extract s.size (sealed' s).size).data.toList := by simp
  rw [e, Lib.extract_to_end, sealed_data, List.drop_append_of_le_length (by simp)]
  simp
theorem burst_size (s : ByteArray) (l : List UInt8) (hl : l.length = s.size) : ((⟨l.toArray⟩ : ByteArray) ++ (sealed' s).extract s.size (sealed' s).size).size = s.size + 4 := by
  have h := congrArg List.length (burst_data s l)
  rw [List.length_append, sumBytes_length, hl] at h
  rw [Array.length_toList] at h
  exact h
theorem burst_opens (s : ByteArray) (l : List UInt8) (hl : l.length = s.size) : opens ((⟨l.toArray⟩ : ByteArray) ++ (sealed' s).extract s.size (sealed' s).size) = decide (crcSum l = crcSum s.data.toList) := by
  unfold opens
  rw [burst_size s l hl, burst_data, Nat.add_sub_cancel, ← hl, List.take_left', List.drop_left']
  · rw [Bool.eq_iff_iff]
    simp only [beq_iff_eq, decide_eq_true_eq]
    exact ⟨fun h => sumBytes_inj _ _ (crcSum_lt _) (crcSum_lt _) h, fun h => by rw [h]⟩
  · rfl
  · rfl
theorem open_no_more (s : ByteArray) (l : List UInt8) (hl : l.length = s.size) (hs : s.size ≤ 5000) (h : crcSum l ≠ crcSum s.data.toList) (w : World) :
    Calls Try.prog 19 #[.string ((⟨l.toArray⟩ : ByteArray) ++ (sealed' s).extract s.size (sealed' s).size)] w fun e w' => e = .returned (.tuple #[.string ⟨#[]⟩, .int .i64 4]) ∧ Below w.heap.size w w' := by
  have h1 := burst_size s l hl
  have h2 := burst_opens s l hl
  rw [decide_eq_false h] at h2
  have h3 := open_yes _ w (by omega) (by omega : ((⟨l.toArray⟩ : ByteArray) ++ (sealed' s).extract s.size (sealed' s).size).size ≤ 140737488351232)
  refine h3.mono ?_
  rintro e w' ⟨he, hb⟩
  rw [h2] at he
  exact ⟨he, hb⟩
theorem open_still (s : ByteArray) (l : List UInt8) (hl : l.length = s.size) (hs : s.size ≤ 5000) (h : crcSum l = crcSum s.data.toList) (w : World) :
    Calls Try.prog 19 #[.string ((⟨l.toArray⟩ : ByteArray) ++ (sealed' s).extract s.size (sealed' s).size)] w fun e w' => (∃ t, e = .returned (.tuple #[.string t, .int .i64 0])) ∧ Below w.heap.size w w' := by
  have h1 := burst_size s l hl
  have h2 := burst_opens s l hl
  rw [decide_eq_true h] at h2
  have h3 := open_yes _ w (by omega) (by omega : ((⟨l.toArray⟩ : ByteArray) ++ (sealed' s).extract s.size (sealed' s).size).size ≤ 140737488351232)
  refine h3.mono ?_
  rintro e w' ⟨he, hb⟩
  rw [h2] at he
  exact ⟨⟨_, he⟩, hb⟩

theorem burst_chain {w wr w3 w4 w5 w6 w7 : World} (hbel : Below w.heap.size w wr) (hb3 : Below wr.heap.size wr w3) (hb4 : Below w3.heap.size w3.drew w4) (hb5 : Below w4.heap.size w4 w5) (hb6 : Below w5.heap.size w5 w6) (hb7 : Below w6.heap.size w6 w7) : Below w.heap.size w w7 := by
  have b3 := hbel.trans (hb3.mono hbel.size)
  have b4 := b3.drew.trans (hb4.mono b3.size)
  have b5 := b4.trans (hb5.mono b4.size)
  have b6 := b5.trans (hb6.mono b5.size)
  exact b6.trans (hb7.mono b6.size)
set_option maxRecDepth 100000 in
set_option maxHeartbeats 4000000 in
theorem burst_in (s : ByteArray) (p m : Nat) (w : World) (hs : s.size ≤ 5000) (hp : p < 8 * s.size) (hm : m < 4294967296) :
    Calls Try.prog 5 #[.string s, .int .i64 p, .int .u32 m] w fun e w' => e = .returned (.bool true) ∧ Below w.heap.size w w' := by
  have hk : (p : Int) < 8 * (s.size : Int) := by omega
  have hcv := fun wx : World => run_bytes_of_string (P := Try.prog) wx 9 38 5 s Try.underlying9 Try.underlying38 Try.underlying5
  go_enter Try.func5, Try.ntmps5
  go_wp2
  clear hcv
  go_loopw [8, 9] (fun t x wr => ∃ i : Nat, i ≤ 32 ∧ p + i ≤ 8 * s.size ∧ x = .int .i64 i ∧ Burst s p m w i t wr) (fun _ x _ => 32 - (intOf x).toNat)
  case atStart => exact ⟨0, by omega, by omega, rfl, s.data.toList, by simp, by simp [Nat.mod_one], by simp [turnedB, Nat.mod_one], bytesAt_made _ _ _, ((Below.refl _ _).alloc (Nat.le_refl _) _).drew, by simp⟩
  case round =>
    obtain ⟨i, hi, hpi, rfl, hbu⟩ := hrel
    by_cases c : i < 32 ∧ p + i < 8 * s.size
    · obtain ⟨c1, c2⟩ := c
      have HB := Lib.hid hbu
      obtain ⟨l, hl, hbig, rfl, hat, hbel, hsz⟩ := hbu
      have hq : (p + i) / 8 < l.length := by omega
      obtain ⟨hc, hf⟩ := hat _ hq
      obtain ⟨c, hcd⟩ : ∃ c : Nat, c = (l.getD ((p + i) / 8) 0).toNat := ⟨_, rfl⟩
      rw [← hcd] at hc
      have HC := Lib.hid hcd
      have HG := Lib.hid hbig
      have HL := Lib.hid hl
      clear hcd hbig
      go_wp2
      · go_region
        all_goals go_wp2
        all_goals go_roundw
        case rel => exact ⟨i + 1, by omega, by omega, by go_num, burst_turn s p m i hm w wr l HL.out HG.out hat hbel hsz hq c HC.out ‹_›⟩
        case measure => simp [intOf]; omega
      · go_roundw
        case rel => exact ⟨i + 1, by omega, by omega, by go_num, burst_skip s p m i hm w wr HB.out ‹_›⟩
        case measure => simp [intOf]; omega
    · have c3 : ¬ (i < 32) ∨ ¬ (p + i < 8 * s.size) := by omega
      clear c
      obtain ⟨l, hl, hbig, rfl, hat, hbel, hsz⟩ := hbu
      have hzs : (sealed' s).size = s.size + 4 := by have := congrArg List.length (sealed_data s); rw [List.length_append, sumBytes_length, Array.length_toList, Array.length_toList] at this; exact this
      have hsz2 : ((⟨l.toArray⟩ : ByteArray)).size = s.size := hl
      cases ht : turnedB m i
      · have heq : crcSum l = crcSum s.data.toList := by rw [burst_unturned s p m i l hl hbig ht]
        have hos := open_still s l hl (by omega) heq
        rw [hzs] at hos
        have h1 := fun wx => sum1_any ⟨l.toArray⟩ wx (by rw [hsz2]; unfold maxLen; omega)
        have h2 := fun wx => sum1_any s wx (by unfold maxLen; omega)
        simp only [heq] at h1
        have HSL := Lib.hid h1
        have HSS := Lib.hid h2
        clear h1 h2 heq
        have HO := Lib.hid hos
        clear hbig hos
        go_wp2_with (go_at_call 21; refine (sealit_any _ _ (by omega)).mono ?_; rintro e w3 ⟨rfl, hb3⟩)
        all_goals
          have hat3 := bytesAt_below hat hb3 hsz
          have hcv : (convert 38 9 (.slice (some ⟨w.heap.size, 0, none⟩) s.size (grownCap w s.size 0 5))).run Try.prog w3.drew = .ok (.string ⟨l.toArray⟩) w3.drew := bytesAt_conv (w := w3.drew) hat3 s.size hl _
          go_region_with (go_at_call 19; with_reducible refine (HO.out _).mono ?_; rintro e w4 ⟨⟨T, rfl⟩, hb4⟩)
        all_goals
          have hat4 := bytesAt_below (w := w3.drew) hat3 hb4 (Nat.lt_of_lt_of_le hsz hb3.size)
          have hcv4 := bytesAt_conv hat4 s.size hl (grownCap w s.size 0 5)
          clear hcv HO
          go_wp2_with (first | (go_at_call 11; with_reducible refine (HSL.out _).mono ?_; rintro e w5 ⟨rfl, hb5⟩) | (go_at_call 11; with_reducible refine (HSS.out _).mono ?_; rintro e w6 ⟨rfl, hb6⟩) | (go_at_call 18; refine (lawlives_any _).mono ?_; rintro e w7 ⟨rfl, hb7⟩))
        all_goals
          go_ret
          exact ⟨rfl, burst_chain hbel hb3 hb4 hb5 hb6 hb7⟩
      · have hne := burst_turned s p m i hp hi l hl hbig ht
        have hnb : (((crcSum l : Nat) : Int) != ((crcSum s.data.toList : Nat) : Int)) = true := by rw [bne_iff_ne]; omega
        have hos := open_no_more s l hl (by omega) hne
        rw [hzs] at hos
        have h1 := fun wx => sum1_any ⟨l.toArray⟩ wx (by rw [hsz2]; unfold maxLen; omega)
        have h2 := fun wx => sum1_any s wx (by unfold maxLen; omega)
        have HSL := Lib.hid h1
        have HSS := Lib.hid h2
        clear h1 h2 hne
        have HO := Lib.hid hos
        clear hbig hos
        go_wp2_with (go_at_call 21; refine (sealit_any _ _ (by omega)).mono ?_; rintro e w3 ⟨rfl, hb3⟩)
        all_goals
          have hat3 := bytesAt_below hat hb3 hsz
          have hcv : (convert 38 9 (.slice (some ⟨w.heap.size, 0, none⟩) s.size (grownCap w s.size 0 5))).run Try.prog w3.drew = .ok (.string ⟨l.toArray⟩) w3.drew := bytesAt_conv (w := w3.drew) hat3 s.size hl _
          go_region_with (go_at_call 19; with_reducible refine (HO.out _).mono ?_; rintro e w4 ⟨rfl, hb4⟩)
        all_goals
          have hat4 := bytesAt_below (w := w3.drew) hat3 hb4 (Nat.lt_of_lt_of_le hsz hb3.size)
          have hcv4 := bytesAt_conv hat4 s.size hl (grownCap w s.size 0 5)
          clear hcv HO
          go_wp2_with (first | (go_at_call 11; with_reducible refine (HSL.out _).mono ?_; rintro e w5 ⟨rfl, hb5⟩) | (go_at_call 11; with_reducible refine (HSS.out _).mono ?_; rintro e w6 ⟨rfl, hb6⟩) | (go_at_call 18; refine (lawlives_any _).mono ?_; rintro e w7 ⟨rfl, hb7⟩))
        all_goals
          go_ret
          exact ⟨rfl, burst_chain hbel hb3 hb4 hb5 hb6 hb7⟩

theorem lawburst_out (s : ByteArray) (p : Int) (m : Int) (w : World) (h : 5000 < s.size ∨ p < 0 ∨ 8 * (s.size : Int) ≤ p) (hs : s.size ≤ 140737488351232) :
    Calls Try.prog 5 #[.string s, .int .i64 p, .int .u32 m] w fun e w' => e = .returned (.bool true) ∧ Below w.heap.size w w' := by
  by_cases h1 : 5000 < s.size
  · clear h
    go_enter Try.func5, Try.ntmps5
    go_wp2_with (go_at_call 18; refine (lawlives_any _).mono ?_; rintro e w7 ⟨rfl, hb7⟩)
    go_ret
    exact ⟨rfl, hb7⟩
  · by_cases h2 : p < 0
    · clear h
      go_enter Try.func5, Try.ntmps5
      go_wp2_with (go_at_call 18; refine (lawlives_any _).mono ?_; rintro e w7 ⟨rfl, hb7⟩)
      go_ret
      exact ⟨rfl, hb7⟩
    · have h3 : 8 * (s.size : Int) ≤ p := by omega
      clear h
      go_enter Try.func5, Try.ntmps5
      go_wp2_with (go_at_call 18; refine (lawlives_any _).mono ?_; rintro e w7 ⟨rfl, hb7⟩)
      go_ret
      exact ⟨rfl, hb7⟩
theorem lawburst_any (s : ByteArray) (p : Int) (m : Int) (w : World) (hm : 0 ≤ m ∧ m ≤ 4294967295) (hs : s.size ≤ 140737488351232) :
    Calls Try.prog 5 #[.string s, .int .i64 p, .int .u32 m] w fun e w' => e = .returned (.bool true) ∧ Below w.heap.size w w' := by
  by_cases h : 5000 < s.size ∨ p < 0 ∨ 8 * (s.size : Int) ≤ p
  · exact lawburst_out s p m w h hs
  · obtain ⟨q, rfl⟩ := Int.eq_ofNat_of_zero_le (a := p) (by omega)
    obtain ⟨k, rfl⟩ := Int.eq_ofNat_of_zero_le hm.1
    exact burst_in s q k w (by omega) (by omega) (by omega)

theorem Try.own : ownKnob Try.prog.godebug = none := by kernel_rfl
set_option maxRecDepth 100000 in
theorem crcBurst_lifted (os : Os) (started : os.Started) (H : Type) (enc : TypeId × Value → H) :
    ReturnsInHanded {} Try.checked os 5 .any (Rows.crcBurstSpec.pre6 enc Try.prog Try.f5 Rows.crcBurstRow.domain false) (Rows.crcBurstSpec.post enc Try.prog Try.f5 false true false false) := by
  refine returnsInHanded_of_change_sized (C := Try.checked) Try.own started (by kernel_rfl) Try.func5
    (ChangeSpec.witness6 (enc := enc) (C := Try.checked) false ⟨#[], #[.string ⟨#[]⟩, .int .i64 0, .int .u32 0], []⟩ 8 (by kernel_rfl) (by kernel_rfl) (by kernel_rfl) (by kernel_rfl)) ?_
  intro W base args ds gs before hval0 hW hcnd hsz0 _
  have hval : ∀ (j : Nat) t v, Try.f5.params[j]? = some t → args[j]? = some v → Value.okWide Try.prog W .any base t v := hval0
  have hsz : (DataW.weightsEach Try.prog (Try.f5.params.toList ++ Rows.crcBurstSpec.plain.varTypes Try.prog) (ds ++ gs)).all (· ≤ reachBytes) = true := hsz0
  have hW' := hW
  obtain ⟨p, q, hA0, hV, rfl, hfz, hnd⟩ := hW
  have hA : DataW.TrodAll enc Try.prog W 0 (fun _ => true) true Try.f5.params.toList args.toList ds p := hA0
  rw [Try.params5] at hA hval hsz
  obtain ⟨v0, v1, v2, d0, d1, d2, p0, p1, p2, rfl, rfl, rfl, h0, h1, h2⟩ := trodAll_three hA
  obtain ⟨rfl, rfl⟩ := trodVars_none hV
  obtain ⟨s, rfl, rfl, rfl, hs⟩ := open_string Try.underlying9 (hval 0 9 v0 rfl rfl) h0
  obtain ⟨n, rfl, rfl, rfl, wn⟩ := open_int Try.underlying3 (hval 1 3 v1 rfl rfl) h1
  obtain ⟨m, rfl, rfl, rfl, wm⟩ := open_int Try.underlying37 (hval 2 37 v2 rfl rfl) h2
  clear hA0 hval0
  simp only [List.append_nil] at hW'
  have hs2 : s.size ≤ 140737488351232 := by
    have := sized_string hsz (j := 0) (t := 9) rfl rfl
    simpa [reachBytes] using this
  refine (lawburst_any s n m W (bounds_u32 wm) hs2).mono fun e W' ⟨he, hw⟩ => ?_
  subst he
  exact ⟨_, rfl, _, _, _, [], [], [], hW', trodAll_mk1 (shut_bool Try.underlying4 true), trodAll_mk3 (shut_string Try.underlying9 hs) (shut_int Try.underlying3 wn) (shut_int Try.underlying37 wm), rfl, hw.frame _, fun h => by cases h⟩

theorem crcBurst_holds : Rows.CrcBurstSaid :=
  OpenClaim.holds_of_wide 5 Try.f5 rfl rfl rfl rfl rfl rfl rfl ⟨rfl, rfl, rfl, rfl, rfl⟩ rfl rfl rfl rfl rfl (by kernel_rfl) Try.func5 (by kernel_rfl)
    (of_decide_eq_true (by kernel_rfl)) (by unfold Func.isWrapper; first | (rw [if_pos (by decide +kernel)]; kernel_rfl) | (rw [if_neg (by decide +kernel)]; exact ⟨rfl, rfl⟩))
    (fun os started H enc _ => crcBurst_lifted os started H enc)
#print axioms crcBurst_holds
end Go.Proofs.Ytckgmofgcddnaaa
