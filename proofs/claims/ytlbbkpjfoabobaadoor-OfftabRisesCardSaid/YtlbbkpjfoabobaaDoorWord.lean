/- Plain facts on 64-bit words as natural numbers: masks of a run, how many bits are set, the least and the greatest set bit. No program in sight. -/
namespace Go.Proofs.YtlbbkpjfoabobaaDoor.Word

def clip (n : Int) : Int := min (max n 0) 64
theorem clip_bd (n : Int) : 0 ≤ clip n ∧ clip n ≤ 64 := by unfold clip; omega
theorem clip_id (n : Int) (h : 0 ≤ n) (h2 : n ≤ 64) : clip n = n := by unfold clip; omega

/-- The word that has the run from lo to below hi. -/
def maskN (lo hi : Nat) : Nat := if hi ≤ lo then 0 else 2 ^ hi - 2 ^ lo
theorem maskN_lt (lo hi : Nat) (h : hi ≤ 64) : maskN lo hi < 2 ^ 64 := by
  unfold maskN; split
  · decide
  · have := Nat.pow_le_pow_right (n := 2) (by decide) h
    have := Nat.two_pow_pos lo
    omega
theorem maskN_eq (lo hi : Nat) (h : lo < hi) : maskN lo hi = 2 ^ lo * (2 ^ (hi - lo) - 1) := by
  unfold maskN; rw [if_neg (by omega), Nat.mul_sub, ← Nat.pow_add, Nat.mul_one, Nat.add_sub_cancel' (by omega)]
theorem testBit_maskN (lo hi i : Nat) : (maskN lo hi).testBit i = decide (lo ≤ i ∧ i < hi) := by
  by_cases h : lo < hi
  · rw [maskN_eq lo hi h, Nat.testBit_two_pow_mul, Nat.testBit_two_pow_sub_one]
    by_cases h1 : lo ≤ i <;> by_cases h2 : i < hi <;> simp [h1, h2] <;> omega
  · unfold maskN; rw [if_pos (by omega)]; simp; omega

/-- masks.Run -/
def runW (a b : Int) : Nat := maskN (clip a).toNat (clip b).toNat
theorem runW_lt (a b : Int) : runW a b < 2 ^ 64 := maskN_lt _ _ (by have := clip_bd b; omega)
theorem testBit_runW (a b : Int) (i : Nat) : (runW a b).testBit i = decide (a ≤ i ∧ (i : Int) < b ∧ i < 64) := by
  unfold runW; rw [testBit_maskN]
  apply decide_eq_decide.2
  unfold clip; omega
theorem runW_code (a b : Int) (h : clip a < clip b) :
    (18446744073709551615 / 2 ^ (64 - clip b + clip a).toNat * 2 ^ (clip a).toNat : Int) = (runW a b : Nat) := by
  have ha := clip_bd a
  have hb := clip_bd b
  unfold runW
  generalize clip a = A at *
  generalize clip b = B at *
  obtain ⟨x, rfl⟩ : ∃ x : Nat, A = x := ⟨A.toNat, by omega⟩
  obtain ⟨y, rfl⟩ : ∃ y : Nat, B = y := ⟨B.toNat, by omega⟩
  have h1 : (64 - (y : Int) + x).toNat = 64 - (y - x) := by omega
  rw [h1, Int.toNat_natCast, Int.toNat_natCast, maskN_eq x y (by omega)]
  have hp : 18446744073709551615 / 2 ^ (64 - (y - x)) = 2 ^ (y - x) - 1 := by
    have e1 : (18446744073709551615 : Nat) = 2 ^ (64 - (y - x)) * (2 ^ (y - x) - 1) + (2 ^ (64 - (y - x)) - 1) := by
      rw [Nat.mul_sub, ← Nat.pow_add, Nat.mul_one, show 64 - (y - x) + (y - x) = 64 by omega]
      have : 2 ^ (64 - (y - x)) ≤ 2 ^ 64 := Nat.pow_le_pow_right (by decide) (by omega)
      have := Nat.two_pow_pos (64 - (y - x))
      have e : (2 : Nat) ^ 64 = 18446744073709551616 := by decide
      omega
    rw [e1]
    have hpos := Nat.two_pow_pos (64 - (y - x))
    rw [Nat.mul_add_div hpos, Nat.div_eq_of_lt (by omega), Nat.add_zero]
  have : ((18446744073709551615 / 2 ^ (64 - (y - x)) * 2 ^ x : Nat) : Int) = ((2 ^ x * (2 ^ (y - x) - 1) : Nat) : Int) := by rw [hp, Nat.mul_comm]
  rw [← this]; simp

/-- How many bits are set. -/
def cnt (f : Nat → Bool) (n : Nat) : Nat := (List.range n).countP f
theorem cnt_zero (f : Nat → Bool) : cnt f 0 = 0 := rfl
theorem cnt_succ (f : Nat → Bool) (n : Nat) : cnt f (n + 1) = cnt f n + (f n).toNat := by
  unfold cnt; rw [List.range_succ, List.countP_append]; cases h : f n <;> simp [h]
theorem cnt_congr {f g : Nat → Bool} {n : Nat} (h : ∀ i, i < n → f i = g i) : cnt f n = cnt g n := by
  induction n with
  | zero => rfl
  | succ n ih => rw [cnt_succ, cnt_succ, ih (fun i hi => h i (by omega)), h n (by omega)]
theorem cnt_add (f : Nat → Bool) (m n : Nat) : cnt f (m + n) = cnt f m + cnt (fun i => f (m + i)) n := by
  induction n with
  | zero => simp [cnt_zero]
  | succ n ih => rw [← Nat.add_assoc, cnt_succ, cnt_succ, ih]; omega
theorem cnt_le (f : Nat → Bool) (n : Nat) : cnt f n ≤ n := by
  unfold cnt; have := List.countP_le_length (p := f) (l := List.range n); simpa using this
theorem cnt_mono (f : Nat → Bool) {m n : Nat} (h : m ≤ n) : cnt f m ≤ cnt f n := by
  obtain ⟨k, rfl⟩ : ∃ k, n = m + k := ⟨n - m, by omega⟩
  rw [cnt_add]; omega
theorem cnt_none {f : Nat → Bool} {n : Nat} (h : ∀ i, i < n → f i = false) : cnt f n = 0 := by
  induction n with
  | zero => rfl
  | succ n ih => rw [cnt_succ, ih (fun i hi => h i (by omega)), h n (by omega)]; rfl
theorem cnt_zero_iff {f : Nat → Bool} {n : Nat} (h : cnt f n = 0) : ∀ i, i < n → f i = false := by
  induction n with
  | zero => intro i hi; omega
  | succ n ih =>
    rw [cnt_succ] at h
    intro i hi
    by_cases e : i = n
    · subst e; cases hf : f i with
      | false => rfl
      | true => rw [hf] at h; simp at h
    · exact ih (by omega) i (by omega)
theorem cnt_or {f g : Nat → Bool} (h : ∀ i, (f i && g i) = false) (n : Nat) : cnt (fun i => f i || g i) n = cnt f n + cnt g n := by
  induction n with
  | zero => rfl
  | succ n ih =>
    rw [cnt_succ, cnt_succ, cnt_succ, ih]
    have := h n
    cases hf : f n <;> cases hg : g n <;> simp_all <;> omega

def pc (x : Nat) : Nat := cnt x.testBit 64
theorem pc_le (x : Nat) : pc x ≤ 64 := cnt_le _ _

/-! The count by halves, byte by byte. -/
def rep (m : Nat) : Nat → Nat
  | 0 => 0
  | k + 1 => m + 256 * rep m k
theorem and_step (b m y n : Nat) (hb : b < 256) (hm : m < 256) : (b + 256 * y) &&& (m + 256 * n) = (b &&& m) + 256 * (y &&& n) := by
  apply Nat.eq_of_testBit_eq
  intro i
  have e : ∀ c z : Nat, c < 256 → (c + 256 * z).testBit i = if i < 8 then c.testBit i else z.testBit (i - 8) := by
    intro c z hc
    have := Nat.testBit_two_pow_mul_add z (i := 8) (b := c) (by simpa using hc) i
    rw [show c + 256 * z = 2 ^ 8 * z + c by omega]
    exact this
  have hlt : b &&& m < 256 := Nat.lt_of_le_of_lt Nat.and_le_left hb
  rw [Nat.testBit_and, e b y hb, e m n hm, e _ _ hlt]
  split <;> rw [Nat.testBit_and]
def s1 (k x : Nat) : Nat := ((x / 2) &&& rep 0x55 k) + (x &&& rep 0x55 k)
def s2 (k x : Nat) : Nat := ((x / 4) &&& rep 0x33 k) + (x &&& rep 0x33 k)
def s3 (k x : Nat) : Nat := (x / 16 + x) &&& rep 0x0f k
def b1 (b : Nat) : Nat := ((b / 2) &&& 0x55) + (b &&& 0x55)
def b2 (b : Nat) : Nat := ((b / 4) &&& 0x33) + (b &&& 0x33)
def b3 (b : Nat) : Nat := (b / 16 + b) &&& 0x0f
theorem s1_step (k b y : Nat) (hb : b < 256) : s1 (k + 1) (b + 256 * y) = b1 b + 256 * s1 k y := by
  unfold s1 b1
  rw [show rep 0x55 (k + 1) = 0x55 + 256 * rep 0x55 k from rfl]
  have e : (b + 256 * y) / 2 = (b / 2 + 128 * (y % 2)) + 256 * (y / 2) := by omega
  have h2 : y % 2 < 2 := by omega
  rw [e, and_step _ _ _ _ (by omega) (by decide), and_step _ _ _ _ hb (by decide)]
  have : ((b / 2 + 128 * (y % 2)) &&& 0x55) = (b / 2) &&& 0x55 := by
    generalize y % 2 = c at h2
    have hall : ∀ b, b < 256 → ∀ c, c < 2 → ((b / 2 + 128 * c) &&& 0x55) = (b / 2) &&& 0x55 := by decide +kernel
    exact hall b hb c h2
  rw [this]; omega
theorem s2_step (k b y : Nat) (hb : b < 256) : s2 (k + 1) (b + 256 * y) = b2 b + 256 * s2 k y := by
  unfold s2 b2
  rw [show rep 0x33 (k + 1) = 0x33 + 256 * rep 0x33 k from rfl]
  have e : (b + 256 * y) / 4 = (b / 4 + 64 * (y % 4)) + 256 * (y / 4) := by omega
  have h2 : y % 4 < 4 := by omega
  rw [e, and_step _ _ _ _ (by omega) (by decide), and_step _ _ _ _ hb (by decide)]
  have : ((b / 4 + 64 * (y % 4)) &&& 0x33) = (b / 4) &&& 0x33 := by
    generalize y % 4 = c at h2
    have hall : ∀ b, b < 256 → ∀ c, c < 4 → ((b / 4 + 64 * c) &&& 0x33) = (b / 4) &&& 0x33 := by decide +kernel
    exact hall b hb c h2
  rw [this]; omega
theorem s3_step (k b y : Nat) (hb : b ≤ 0x44) (h16 : b % 16 ≤ 4) (hy : y % 16 ≤ 4) : s3 (k + 1) (b + 256 * y) = b3 b + 256 * s3 k y := by
  unfold s3 b3
  rw [show rep 0x0f (k + 1) = 0x0f + 256 * rep 0x0f k from rfl]
  have e : (b + 256 * y) / 16 + (b + 256 * y) = (b / 16 + 16 * (y % 16) + b) + 256 * (y / 16 + y) := by omega
  rw [e, and_step _ _ _ _ (by omega) (by decide)]
  have : ((b / 16 + 16 * (y % 16) + b) &&& 0x0f) = (b / 16 + b) &&& 0x0f := by
    generalize y % 16 = c at hy
    have hall : ∀ b, b < 69 → ∀ c, c < 5 → ((b / 16 + 16 * c + b) &&& 0x0f) = (b / 16 + b) &&& 0x0f := by decide +kernel
    exact hall b (by omega) c (by omega)
  rw [this]
def t (k x : Nat) : Nat := s3 k (s2 k (s1 k x))
theorem bytes_ok : ∀ b, b < 256 → b1 b < 256 ∧ b2 (b1 b) ≤ 0x44 ∧ b2 (b1 b) % 16 ≤ 4 ∧ b3 (b2 (b1 b)) = (List.range 8).countP b.testBit := by decide +kernel
theorem s2_mod (k y : Nat) : s2 k (s1 k y) % 16 ≤ 4 := by
  cases k with
  | zero => simp [s2, rep]
  | succ k =>
    have e : y = y % 256 + 256 * (y / 256) := by omega
    have hb : y % 256 < 256 := by omega
    obtain ⟨h1, h2, h3, _⟩ := bytes_ok _ hb
    rw [e, s1_step k _ _ hb, s2_step k _ _ h1]; omega
theorem t_step (k b y : Nat) (hb : b < 256) : t (k + 1) (b + 256 * y) = (List.range 8).countP b.testBit + 256 * t k y := by
  obtain ⟨h1, h2, h3, h4⟩ := bytes_ok b hb
  unfold t
  rw [s1_step k b y hb, s2_step k _ _ h1, s3_step k _ _ h2 h3 (s2_mod k y), h4]
def byteSum : Nat → Nat → Nat
  | 0, _ => 0
  | k + 1, x => (List.range 8).countP (x % 256).testBit + 256 * byteSum k (x / 256)
theorem t_eq (k : Nat) : ∀ x, t k x = byteSum k x := by
  induction k with
  | zero => intro x; simp [t, s3, rep, byteSum]
  | succ k ih =>
    intro x
    have e : x = x % 256 + 256 * (x / 256) := by omega
    rw [e, t_step k _ _ (by omega), ih, byteSum]
    congr 3 <;> omega
theorem cnt_bytes (k : Nat) : ∀ x, cnt x.testBit (8 * (k + 1)) = (List.range 8).countP (x % 256).testBit + cnt (x / 256).testBit (8 * k) := by
  intro x
  rw [show 8 * (k + 1) = 8 + 8 * k by omega, cnt_add]
  congr 1
  · apply cnt_congr
    intro i hi
    have := Nat.testBit_mod_two_pow x 8 i
    simp only [show (2 : Nat) ^ 8 = 256 from rfl] at this
    rw [this]; simp [hi]
  · apply cnt_congr
    intro i _
    have := Nat.testBit_div_two_pow (x := x) (n := 8) (i := i)
    simp only [show (2 : Nat) ^ 8 = 256 from rfl] at this
    rw [this, Nat.add_comm]
theorem countP8_le (b : Nat) : (List.range 8).countP b.testBit ≤ 8 := by
  have := List.countP_le_length (p := b.testBit) (l := List.range 8); simpa using this
theorem div_lo (lo q m : Nat) (h : lo < m) : (lo + m * q) / m = q := by
  rw [Nat.add_mul_div_left _ _ (by omega), Nat.div_eq_of_lt h]; omega
theorem fold_num (y c0 c1 c2 c3 c4 c5 c6 c7 : Nat)
    (hy : y = c0 + 256 * (c1 + 256 * (c2 + 256 * (c3 + 256 * (c4 + 256 * (c5 + 256 * (c6 + 256 * (c7 + 256 * 0))))))))
    (a0 : c0 ≤ 8) (a1 : c1 ≤ 8) (a2 : c2 ≤ 8) (a3 : c3 ≤ 8) (a4 : c4 ≤ 8) (a5 : c5 ≤ 8) (a6 : c6 ≤ 8) (a7 : c7 ≤ 8) :
    let z1 := (y + y / 256) % 18446744073709551616
    let z2 := (z1 + z1 / 65536) % 18446744073709551616
    let z3 := (z2 + z2 / 4294967296) % 18446744073709551616
    z3 % 128 = c0 + (c1 + (c2 + (c3 + (c4 + (c5 + (c6 + (c7 + 0))))))) := by
  have e1 : y / 256 = c1 + 256 * (c2 + 256 * (c3 + 256 * (c4 + 256 * (c5 + 256 * (c6 + 256 * c7))))) := by
    rw [hy, div_lo _ _ _ (by omega)]; omega
  have m1 : (y + y / 256) % 18446744073709551616 = (c0 + c1) + 256 * (c1 + c2) + 65536 * ((c2 + c3) + 256 * (c3 + c4) + 65536 * ((c4 + c5) + 256 * (c5 + c6) + 65536 * ((c6 + c7) + 256 * c7))) := by
    rw [e1, Nat.mod_eq_of_lt (by omega)]; omega
  simp only [m1]
  clear m1 e1 hy y
  have d2 : ((c0 + c1) + 256 * (c1 + c2) + 65536 * ((c2 + c3) + 256 * (c3 + c4) + 65536 * ((c4 + c5) + 256 * (c5 + c6) + 65536 * ((c6 + c7) + 256 * c7)))) / 65536 = (c2 + c3) + 256 * (c3 + c4) + 65536 * ((c4 + c5) + 256 * (c5 + c6) + 65536 * ((c6 + c7) + 256 * c7)) :=
    div_lo _ _ _ (by omega)
  rw [d2]
  have m2 : ((c0 + c1) + 256 * (c1 + c2) + 65536 * ((c2 + c3) + 256 * (c3 + c4) + 65536 * ((c4 + c5) + 256 * (c5 + c6) + 65536 * ((c6 + c7) + 256 * c7))) + ((c2 + c3) + 256 * (c3 + c4) + 65536 * ((c4 + c5) + 256 * (c5 + c6) + 65536 * ((c6 + c7) + 256 * c7)))) % 18446744073709551616 =
      ((c0 + c1 + c2 + c3) + 256 * (c1 + c2 + c3 + c4) + 65536 * (c2 + c3 + c4 + c5) + 16777216 * (c3 + c4 + c5 + c6)) + 4294967296 * ((c4 + c5 + c6 + c7) + 256 * (c5 + c6 + c7) + 65536 * (c6 + c7) + 16777216 * c7) := by
    rw [Nat.mod_eq_of_lt (by omega)]; omega
  rw [m2]
  clear m2 d2
  rw [div_lo _ _ 4294967296 (by omega)]
  have hm : ∀ X : Nat, X < 18446744073709551616 → X % 18446744073709551616 % 128 = X % 128 := fun X h => by rw [Nat.mod_eq_of_lt h]
  rw [hm _ (by omega)]
  omega
/-- The last four lines of math/bits.OnesCount64. -/
theorem fold_ok (y : Nat) (x : Nat) (hy : y = t 8 x) :
    let z1 := (y + y / 256) % 18446744073709551616
    let z2 := (z1 + z1 / 65536) % 18446744073709551616
    let z3 := (z2 + z2 / 4294967296) % 18446744073709551616
    z3 % 128 = pc x := by
  rw [t_eq] at hy
  have hp : pc x = cnt x.testBit (8 * 8) := rfl
  rw [hp]
  rw [cnt_bytes 7, cnt_bytes 6, cnt_bytes 5, cnt_bytes 4, cnt_bytes 3, cnt_bytes 2, cnt_bytes 1, cnt_bytes 0]
  rw [byteSum, byteSum, byteSum, byteSum, byteSum, byteSum, byteSum, byteSum, byteSum] at hy
  simp only [Nat.mul_zero, cnt_zero] at *
  have h := countP8_le
  have a0 := h (x % 256)
  have a1 := h (x / 256 % 256)
  have a2 := h (x / 256 / 256 % 256)
  have a3 := h (x / 256 / 256 / 256 % 256)
  have a4 := h (x / 256 / 256 / 256 / 256 % 256)
  have a5 := h (x / 256 / 256 / 256 / 256 / 256 % 256)
  have a6 := h (x / 256 / 256 / 256 / 256 / 256 / 256 % 256)
  have a7 := h (x / 256 / 256 / 256 / 256 / 256 / 256 / 256 % 256)
  revert hy a0 a1 a2 a3 a4 a5 a6 a7
  generalize (List.range 8).countP (x % 256).testBit = c0
  generalize (List.range 8).countP (x / 256 % 256).testBit = c1
  generalize (List.range 8).countP (x / 256 / 256 % 256).testBit = c2
  generalize (List.range 8).countP (x / 256 / 256 / 256 % 256).testBit = c3
  generalize (List.range 8).countP (x / 256 / 256 / 256 / 256 % 256).testBit = c4
  generalize (List.range 8).countP (x / 256 / 256 / 256 / 256 / 256 % 256).testBit = c5
  generalize (List.range 8).countP (x / 256 / 256 / 256 / 256 / 256 / 256 % 256).testBit = c6
  generalize (List.range 8).countP (x / 256 / 256 / 256 / 256 / 256 / 256 / 256 % 256).testBit = c7
  intro hy a0 a1 a2 a3 a4 a5 a6 a7
  exact fold_num y c0 c1 c2 c3 c4 c5 c6 c7 hy a0 a1 a2 a3 a4 a5 a6 a7
end Go.Proofs.YtlbbkpjfoabobaaDoor.Word
