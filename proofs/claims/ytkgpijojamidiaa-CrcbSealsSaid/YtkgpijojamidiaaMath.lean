/- Plain laws on the sum: a step of the register is linear and one to one, so sums of texts part as their registers do. No program is named here. -/
namespace Go.Proofs.Ytkgpijojamidiaa

abbrev W32 := BitVec 32

/-- One step, as the program shifts it. -/
def step1 (r : W32) : W32 := (r <<< 1) ^^^ (79764919#32 &&& (-(r >>> 31)))
/-- One step, as the document says it. -/
def stepR (r : W32) : W32 := if 2147483648 ≤ r.toNat then (r <<< 1) ^^^ 79764919#32 else r <<< 1
def stepN : Nat → W32 → W32
  | 0, r => r
  | k + 1, r => step1 (stepN k r)

theorem shr31 (r : W32) : r >>> 31 = if 2147483648 ≤ r.toNat then 1#32 else 0#32 := by
  have h := r.isLt
  apply BitVec.eq_of_toNat_eq
  rw [BitVec.toNat_ushiftRight, Nat.shiftRight_eq_div_pow]
  split <;> simp <;> omega

theorem step1_eq (r : W32) : step1 r = stepR r := by
  unfold step1 stepR
  rw [shr31]
  split
  · have e : (-1#32 : W32) = BitVec.allOnes 32 := by decide
    rw [e, BitVec.and_allOnes]
  · have e : (-0#32 : W32) = 0#32 := by decide
    rw [e, BitVec.and_zero, BitVec.xor_zero]

theorem step1_msb (r : W32) : step1 r = (r <<< 1) ^^^ (if r.msb then 79764919#32 else 0#32) := by
  rw [step1_eq]
  unfold stepR
  have h : r.msb = decide (2147483648 ≤ r.toNat) := by
    rw [BitVec.msb_eq_decide]
  rw [h]
  by_cases c : 2147483648 ≤ r.toNat
  · simp [c]
  · simp [c]

theorem xor_swap (a b c d : W32) : (a ^^^ b) ^^^ (c ^^^ d) = (a ^^^ c) ^^^ (b ^^^ d) := by
  rw [BitVec.xor_assoc, BitVec.xor_assoc, ← BitVec.xor_assoc b c d, BitVec.xor_comm b c, BitVec.xor_assoc c b d]

theorem step1_xor (a b : W32) : step1 (a ^^^ b) = step1 a ^^^ step1 b := by
  simp only [step1_msb]
  rw [xor_swap, BitVec.shiftLeft_xor_distrib, BitVec.msb_xor]
  congr 1
  cases a.msb <;> cases b.msb <;> simp

theorem step1_zero : step1 0#32 = 0#32 := by decide

theorem step1_inj0 (r : W32) (h : step1 r = 0#32) : r = 0#32 := by
  rw [step1_msb] at h
  have hm : r.msb = false := by
    cases e : r.msb
    · rfl
    · rw [e] at h
      have h0 : ((r <<< 1) ^^^ 79764919#32).getLsbD 0 = (0#32 : W32).getLsbD 0 := by simpa using congrArg (fun x : W32 => x.getLsbD 0) h
      rw [BitVec.getLsbD_xor] at h0
      simp at h0
  rw [hm] at h
  simp only [Bool.false_eq_true, if_false, BitVec.xor_zero] at h
  have hlt : r.toNat < 2147483648 := by
    have := BitVec.msb_eq_decide r
    rw [hm] at this
    simpa using this
  apply BitVec.eq_of_toNat_eq
  have h2 := congrArg BitVec.toNat h
  rw [BitVec.toNat_shiftLeft, Nat.shiftLeft_eq] at h2
  simp only [Nat.reducePow, BitVec.toNat_ofNat, Nat.zero_mod] at h2 ⊢
  omega

theorem stepN_xor (k : Nat) (a b : W32) : stepN k (a ^^^ b) = stepN k a ^^^ stepN k b := by
  induction k with
  | zero => rfl
  | succ k ih => simp only [stepN, ih, step1_xor]
theorem stepN_inj0 (k : Nat) (r : W32) (h : stepN k r = 0#32) : r = 0#32 := by
  induction k with
  | zero => exact h
  | succ k ih => exact ih (step1_inj0 _ h)
theorem stepN_add (j k : Nat) (r : W32) : stepN (j + k) r = stepN j (stepN k r) := by
  induction j with
  | zero => rw [Nat.zero_add]; rfl
  | succ j ih => rw [show j + 1 + k = (j + k) + 1 by omega]; simp only [stepN, ih]

/-- A byte at the register's upper end. -/
def hi8 (c : UInt8) : W32 := (BitVec.ofNat 32 c.toNat) <<< 24
/-- The register behind more bytes. -/
def run (r : W32) : List UInt8 → W32
  | [] => r
  | c :: l => run (stepN 8 (r ^^^ hi8 c)) l

theorem run_append (r : W32) (a b : List UInt8) : run r (a ++ b) = run (run r a) b := by
  induction a generalizing r with
  | nil => rfl
  | cons c a ih => simp only [List.cons_append, run, ih]
theorem run_snoc (r : W32) (a : List UInt8) (c : UInt8) : run r (a ++ [c]) = stepN 8 (run r a ^^^ hi8 c) := by
  rw [run_append]; rfl
/-- Registers part by what is shifted. -/
theorem run_xor (r s : W32) (l : List UInt8) : run r l ^^^ run s l = stepN (8 * l.length) (r ^^^ s) := by
  induction l generalizing r s with
  | nil => rfl
  | cons c l ih =>
    simp only [run, ih, List.length_cons]
    rw [← stepN_xor, Nat.mul_add, Nat.mul_one, stepN_add]
    congr 2
    rw [xor_swap, BitVec.xor_self, BitVec.xor_zero]
theorem run_eq_iff (r s : W32) (l : List UInt8) : run r l = run s l ↔ r = s := by
  constructor
  · intro h
    have h1 := run_xor r s l
    rw [h, BitVec.xor_self] at h1
    have h2 := stepN_inj0 _ _ h1.symm
    exact BitVec.xor_eq_zero_iff.1 h2
  · rintro rfl; rfl

def upd (s : W32) (l : List UInt8) : W32 := ~~~(run (~~~s) l)
def crc (l : List UInt8) : W32 := upd 0#32 l
theorem upd_upd (s : W32) (a b : List UInt8) : upd (upd s a) b = upd s (a ++ b) := by
  unfold upd; rw [BitVec.not_not, run_append]
theorem not_xor_not' (a b : W32) : ~~~a ^^^ ~~~b = a ^^^ b := by
  ext i; simp
theorem not_inj' {a b : W32} (h : ~~~a = ~~~b) : a = b := by
  have := congrArg (fun x : W32 => ~~~x) h
  simpa using this
theorem upd_xor (s t : W32) (l : List UInt8) : upd s l ^^^ upd t l = stepN (8 * l.length) (s ^^^ t) := by
  unfold upd; rw [not_xor_not', run_xor, not_xor_not']
theorem upd_eq_iff (s t : W32) (l : List UInt8) : upd s l = upd t l ↔ s = t := by
  unfold upd
  constructor
  · intro h
    exact not_inj' ((run_eq_iff _ _ _).1 (not_inj' h))
  · rintro rfl; rfl
theorem hi8_inj {a b : UInt8} (h : hi8 a = hi8 b) : a = b := by
  have h1 := congrArg BitVec.toNat h
  unfold hi8 at h1
  have ha := a.toNat_lt
  have hb := b.toNat_lt
  simp only [BitVec.toNat_shiftLeft, BitVec.toNat_ofNat, Nat.shiftLeft_eq] at h1
  exact UInt8.toNat_inj.1 (by omega)
theorem stepN_inj {k : Nat} {a b : W32} (h : stepN k a = stepN k b) : a = b := by
  have h1 : stepN k (a ^^^ b) = 0#32 := by rw [stepN_xor, h, BitVec.xor_self]
  exact BitVec.xor_eq_zero_iff.1 (stepN_inj0 _ _ h1)
/-- One byte changed: another sum. -/
theorem crc_one (p q : List UInt8) (a b : UInt8) (h : crc (p ++ a :: q) = crc (p ++ b :: q)) : a = b := by
  unfold crc upd at h
  have h1 := not_inj' h
  rw [run_append, run_append] at h1
  simp only [run] at h1
  have h2 := stepN_inj ((run_eq_iff _ _ _).1 h1)
  have h3 := congrArg (fun x => run (~~~0#32) p ^^^ x) h2
  simp only [← BitVec.xor_assoc, BitVec.xor_self, BitVec.zero_xor] at h3
  exact hi8_inj h3

end Go.Proofs.Ytkgpijojamidiaa
