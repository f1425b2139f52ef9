/- The plain laws of the CRC register: over natural numbers alone; no program, no memory. -/
namespace Go.Proofs.Ytckgmofgcddnaaa

/-- One step of the register. -/
def half1 (r : Nat) : Nat := if r % 2 = 1 then (r / 2) ^^^ 3988292384 else r / 2
def halfs : Nat → Nat → Nat
  | 0, r => r
  | j + 1, r => half1 (halfs j r)
/-- The register behind bytes. -/
def crcRun (r : Nat) (l : List UInt8) : Nat := l.foldl (fun r b => halfs 8 (r ^^^ b.toNat)) r
def crcSum (l : List UInt8) : Nat := crcRun 4294967295 l ^^^ 4294967295
def crcMore (s : Nat) (l : List UInt8) : Nat := crcRun (s ^^^ 4294967295) l ^^^ 4294967295
/-- The bytes of a sum, the lowest first. -/
def sumBytes (n : Nat) : List UInt8 := [UInt8.ofNat (n % 256), UInt8.ofNat (n / 256 % 256), UInt8.ofNat (n / 65536 % 256), UInt8.ofNat (n / 16777216 % 256)]
/-- Bytes as one number, the first the lowest. -/
def big : List UInt8 → Nat
  | [] => 0
  | b :: l => b.toNat + 256 * big l

theorem xor_div2 (a b : Nat) : (a ^^^ b) / 2 = (a / 2) ^^^ (b / 2) := by
  have := Nat.shiftRight_xor_distrib (a := a) (b := b) (i := 1)
  simpa [Nat.shiftRight_eq_div_pow] using this
theorem xor_mod2 (a b : Nat) : (a ^^^ b) % 2 = ((a % 2) + (b % 2)) % 2 := by
  have h := Nat.xor_mod_two_pow (a := a) (b := b) (n := 1)
  simp at h
  rw [h]
  rcases Nat.mod_two_eq_zero_or_one a with h1 | h1 <;> rcases Nat.mod_two_eq_zero_or_one b with h2 | h2 <;> rw [h1, h2] <;> decide
theorem half1_xor (a b : Nat) : half1 (a ^^^ b) = half1 a ^^^ half1 b := by
  unfold half1
  rw [xor_div2, xor_mod2]
  rcases Nat.mod_two_eq_zero_or_one a with h1 | h1 <;> rcases Nat.mod_two_eq_zero_or_one b with h2 | h2 <;> rw [h1, h2] <;> simp only [Nat.reduceAdd, Nat.reduceMod, if_true, if_false, Nat.zero_ne_one]
  · rw [← Nat.xor_assoc]
  · rw [Nat.xor_assoc, Nat.xor_comm (b / 2), ← Nat.xor_assoc]
  · rw [Nat.xor_assoc, ← Nat.xor_assoc 3988292384, Nat.xor_comm 3988292384, Nat.xor_assoc, Nat.xor_self, Nat.xor_zero]
theorem half1_zero : half1 0 = 0 := rfl
theorem halfs_zero (j : Nat) : halfs j 0 = 0 := by
  induction j with
  | zero => rfl
  | succ j ih => show half1 (halfs j 0) = 0; rw [ih]; rfl
theorem halfs_xor (j a b : Nat) : halfs j (a ^^^ b) = halfs j a ^^^ halfs j b := by
  induction j with
  | zero => rfl
  | succ j ih => show half1 (halfs j (a ^^^ b)) = _; rw [ih, half1_xor]; rfl
theorem halfs_add (i j r : Nat) : halfs (i + j) r = halfs i (halfs j r) := by
  induction i with
  | zero => rw [Nat.zero_add]; rfl
  | succ i ih => rw [Nat.succ_add]; show half1 (halfs (i + j) r) = _; rw [ih]; rfl
theorem half1_even (q : Nat) : half1 (2 * q) = q := by
  unfold half1; rw [if_neg (by omega)]; omega
theorem halfs_pow (j q : Nat) : halfs j (2 ^ j * q) = q := by
  induction j with
  | zero => show 2 ^ 0 * q = q; omega
  | succ j ih =>
    rw [halfs_add j 1]
    have e : 2 ^ (j + 1) * q = 2 * (2 ^ j * q) := by rw [Nat.pow_succ, Nat.mul_assoc, Nat.mul_left_comm]
    show halfs j (half1 (2 ^ (j + 1) * q)) = q
    rw [e, half1_even, ih]
theorem half1_lt (r : Nat) (h : r < 4294967296) : half1 r < 4294967296 := by
  unfold half1
  split
  · have : r / 2 < 2 ^ 32 := by omega
    exact Nat.xor_lt_two_pow this (by decide)
  · omega
theorem halfs_lt (j r : Nat) (h : r < 4294967296) : halfs j r < 4294967296 := by
  induction j with
  | zero => exact h
  | succ j ih => exact half1_lt _ ih
theorem half1_eq_zero (r : Nat) (h : r < 4294967296) (e : half1 r = 0) : r = 0 := by
  unfold half1 at e
  split at e
  · exfalso
    have h2 : r / 2 = 3988292384 := by
      have : (r / 2 ^^^ 3988292384) ^^^ 3988292384 = 0 ^^^ 3988292384 := by rw [e]
      rw [Nat.xor_assoc, Nat.xor_self, Nat.xor_zero, Nat.zero_xor] at this
      exact this
    omega
  · omega
theorem halfs_eq_zero (j r : Nat) (h : r < 4294967296) (e : halfs j r = 0) : r = 0 := by
  induction j with
  | zero => exact e
  | succ j ih => exact ih (half1_eq_zero _ (halfs_lt j r h) e)
/-- A number is its high part xor its low part. -/
theorem split_xor (i r : Nat) : r = (2 ^ i * (r / 2 ^ i)) ^^^ (r % 2 ^ i) := by
  apply Nat.eq_of_testBit_eq
  intro k
  rw [Nat.testBit_xor, Nat.testBit_mod_two_pow, Nat.testBit_two_pow_mul, Nat.testBit_div_two_pow]
  by_cases h : k < i
  · simp [h, Nat.not_le.2 h]
  · simp [h, Nat.not_lt.1 h]
theorem halfs_split (j r : Nat) : halfs j r = (r / 2 ^ j) ^^^ halfs j (r % 2 ^ j) := by
  have h := split_xor j r
  calc halfs j r = halfs j ((2 ^ j * (r / 2 ^ j)) ^^^ (r % 2 ^ j)) := by rw [← h]
    _ = _ := by rw [halfs_xor, halfs_pow]
/-- The step by half a byte. -/
theorem halfs4 (r : Nat) : halfs 4 r = (r / 16) ^^^ halfs 4 (r % 16) := halfs_split 4 r
theorem halfs8 (r : Nat) : halfs 8 r = halfs 4 (halfs 4 r) := halfs_add 4 4 r

theorem crcRun_nil (r : Nat) : crcRun r [] = r := rfl
theorem crcRun_append (r : Nat) (a b : List UInt8) : crcRun r (a ++ b) = crcRun (crcRun r a) b := by unfold crcRun; rw [List.foldl_append]
theorem crcRun_snoc (r : Nat) (a : List UInt8) (c : UInt8) : crcRun r (a ++ [c]) = halfs 8 (crcRun r a ^^^ c.toNat) := by rw [crcRun_append]; rfl
theorem byte_lt (c : UInt8) : c.toNat < 256 := c.toNat_lt
theorem xor_lt32 (a b : Nat) (ha : a < 4294967296) (hb : b < 4294967296) : a ^^^ b < 4294967296 :=
  Nat.xor_lt_two_pow (n := 32) (by omega) (by omega)
theorem crcRun_lt (l : List UInt8) : ∀ r : Nat, r < 4294967296 → crcRun r l < 4294967296 := by
  induction l with
  | nil => intro r h; exact h
  | cons b l ih =>
    intro r h
    have hb := byte_lt b
    exact ih _ (halfs_lt 8 _ (xor_lt32 _ _ h (by omega)))
theorem crcSum_lt (l : List UInt8) : crcSum l < 4294967296 := xor_lt32 _ _ (crcRun_lt l _ (by decide)) (by decide)
theorem crcMore_lt (s : Nat) (l : List UInt8) (h : s < 4294967296) : crcMore s l < 4294967296 := xor_lt32 _ _ (crcRun_lt l _ (xor_lt32 _ _ h (by decide))) (by decide)
theorem crcMore_zero (l : List UInt8) : crcMore 0 l = crcSum l := by unfold crcMore crcSum; rw [Nat.zero_xor]
theorem crcMore_sum (a b : List UInt8) : crcMore (crcSum a) b = crcSum (a ++ b) := by
  unfold crcMore crcSum
  rw [Nat.xor_assoc, Nat.xor_self, Nat.xor_zero, ← crcRun_append]
theorem crcSum_nil : crcSum [] = 0 := rfl
theorem crcSum_lives : crcSum ([49, 50, 51, 52] ++ [53, 54, 55, 56, 57]) = 3421780262 := by decide +kernel

theorem big_append (a b : List UInt8) : big (a ++ b) = big a + 256 ^ a.length * big b := by
  induction a with
  | nil => simp [big]
  | cons c a ih =>
    show c.toNat + 256 * big (a ++ b) = c.toNat + 256 * big a + _
    rw [ih, List.length_cons, Nat.pow_succ, Nat.mul_add, Nat.add_assoc, Nat.mul_comm (256 ^ a.length) 256, Nat.mul_assoc]
theorem add_eq_xor (b q : Nat) (hb : b < 256) : b + 256 * q = b ^^^ (256 * q) := by
  have h := split_xor 8 (b + 256 * q)
  have e1 : (b + 256 * q) / 2 ^ 8 = q := by omega
  have e2 : (b + 256 * q) % 2 ^ 8 = b := by omega
  rw [e1, e2, Nat.xor_comm] at h
  exact h
/-- The register behind bytes: as many steps as there are bits, of the register xor the bytes as one number. -/
theorem crcRun_big (l : List UInt8) : ∀ r : Nat, crcRun r l = halfs (8 * l.length) (r ^^^ big l) := by
  induction l with
  | nil => intro r; show r = r ^^^ 0; rw [Nat.xor_zero]
  | cons b l ih =>
    intro r
    show crcRun (halfs 8 (r ^^^ b.toNat)) l = halfs (8 * (l.length + 1)) (r ^^^ (b.toNat + 256 * big l))
    rw [ih, Nat.mul_succ, halfs_add, add_eq_xor _ _ (byte_lt b), ← Nat.xor_assoc, halfs_xor 8 (r ^^^ b.toNat)]
    have e : halfs 8 (256 * big l) = big l := halfs_pow 8 (big l)
    rw [e]
/-- Bits within 32 in a row that are turned: the register is another one. -/
theorem crcRun_burst (r pos W : Nat) (a b : List UInt8) (hl : b.length = a.length) (hb : big b = big a ^^^ (2 ^ pos * W)) (hW : W < 4294967296) (h0 : W ≠ 0) (hat : pos ≤ 8 * a.length) :
    crcRun r b ≠ crcRun r a := by
  intro h
  rw [crcRun_big, crcRun_big, hl, hb, ← Nat.xor_assoc, halfs_xor] at h
  have h2 : halfs (8 * a.length) (2 ^ pos * W) = 0 := by
    have : halfs (8 * a.length) (r ^^^ big a) ^^^ (halfs (8 * a.length) (r ^^^ big a) ^^^ halfs (8 * a.length) (2 ^ pos * W)) = halfs (8 * a.length) (r ^^^ big a) ^^^ halfs (8 * a.length) (r ^^^ big a) := by rw [h]
    rw [← Nat.xor_assoc, Nat.xor_self, Nat.zero_xor] at this
    exact this
  have e : 8 * a.length = (8 * a.length - pos) + pos := by omega
  rw [e, halfs_add, halfs_pow] at h2
  exact h0 (halfs_eq_zero _ _ hW h2)
theorem xor_right_inj (a b c : Nat) (h : a ^^^ c = b ^^^ c) : a = b := by
  have : (a ^^^ c) ^^^ c = (b ^^^ c) ^^^ c := by rw [h]
  rw [Nat.xor_assoc, Nat.xor_self, Nat.xor_zero, Nat.xor_assoc, Nat.xor_self, Nat.xor_zero] at this
  exact this
theorem crcSum_burst (pos W : Nat) (a b : List UInt8) (hl : b.length = a.length) (hb : big b = big a ^^^ (2 ^ pos * W)) (hW : W < 4294967296) (h0 : W ≠ 0) (hat : pos ≤ 8 * a.length) :
    crcSum b ≠ crcSum a := fun h => crcRun_burst _ pos W a b hl hb hW h0 hat (xor_right_inj _ _ _ h)
theorem big_inj : ∀ (a b : List UInt8), b.length = a.length → big b = big a → b = a := by
  intro a
  induction a with
  | nil => intro b hl _; exact List.length_eq_zero_iff.1 hl
  | cons c a ih =>
    intro b hl h
    match b, hl with
    | d :: b, hl =>
      have hc := byte_lt c
      have hd := byte_lt d
      have h' : d.toNat + 256 * big b = c.toNat + 256 * big a := h
      have e1 : d.toNat = c.toNat := by omega
      have e2 : big b = big a := by omega
      rw [ih b (by simpa using hl) e2, UInt8.toNat.inj e1]
theorem sumBytes_length (n : Nat) : (sumBytes n).length = 4 := rfl
theorem sumBytes_inj (m n : Nat) (hm : m < 4294967296) (hn : n < 4294967296) (h : sumBytes m = sumBytes n) : m = n := by
  unfold sumBytes at h
  simp only [List.cons.injEq, and_true] at h
  obtain ⟨h1, h2, h3, h4⟩ := h
  have e1 := congrArg UInt8.toNat h1
  have e2 := congrArg UInt8.toNat h2
  have e3 := congrArg UInt8.toNat h3
  have e4 := congrArg UInt8.toNat h4
  simp only [UInt8.toNat_ofNat', Nat.reducePow] at e1 e2 e3 e4
  omega
/-- A byte of the bytes turned by bits of its own. -/
theorem big_set (v : Nat) (hv : v < 256) : ∀ (l : List UInt8) (j : Nat), j < l.length →
    big (l.set j (UInt8.ofNat ((l.getD j 0).toNat ^^^ v))) = big l ^^^ (256 ^ j * v) := by
  intro l
  induction l with
  | nil => intro j h; simp at h
  | cons c l ih =>
    intro j h
    have hc := byte_lt c
    match j with
    | 0 =>
      have hx : c.toNat ^^^ v < 256 := Nat.xor_lt_two_pow (n := 8) hc hv
      have e : (UInt8.ofNat (c.toNat ^^^ v)).toNat = c.toNat ^^^ v := by
        rw [UInt8.toNat_ofNat']; omega
      show (UInt8.ofNat (c.toNat ^^^ v)).toNat + 256 * big l = (c.toNat + 256 * big l) ^^^ (256 ^ 0 * v)
      rw [e, add_eq_xor _ _ hx, add_eq_xor _ _ hc, Nat.pow_zero, Nat.one_mul, Nat.xor_assoc, Nat.xor_comm v, ← Nat.xor_assoc]
    | j + 1 =>
      show c.toNat + 256 * big (l.set j (UInt8.ofNat ((l.getD j 0).toNat ^^^ v))) = (c.toNat + 256 * big l) ^^^ (256 ^ (j + 1) * v)
      have e256 : 256 * (big l ^^^ (256 ^ j * v)) = (256 * big l) ^^^ (256 ^ (j + 1) * v) := by
        have h1 := Nat.shiftLeft_xor_distrib (a := big l) (b := 256 ^ j * v) (i := 8)
        simp only [Nat.shiftLeft_eq, Nat.reducePow] at h1
        rw [Nat.mul_comm 256, h1, Nat.mul_comm _ 256, Nat.pow_succ, Nat.mul_comm (256 ^ j * v) 256, Nat.mul_comm (256 ^ j) 256, Nat.mul_assoc]
      rw [ih j (by simpa using h), add_eq_xor _ _ hc, e256, add_eq_xor _ _ hc, Nat.xor_assoc]
end Go.Proofs.Ytckgmofgcddnaaa
