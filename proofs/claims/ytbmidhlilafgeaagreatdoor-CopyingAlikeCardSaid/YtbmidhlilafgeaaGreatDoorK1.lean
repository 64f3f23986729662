/- Plain facts on 64-bit words as natural numbers: masks of a run, how many bits are set, the least and the greatest set bit. No program in sight. Plain facts on 64-bit words as natural numbers: the least and the greatest set bit, trailing zeros, length. No program in sight. Plain facts: a list of bits cut into words of 64. No program in sight. Plain facts: the next, the last and the picked bit of a row of bits, word by word. No program in sight. Plain facts: a run of bits set, cleared or counted word by word. No program in sight. -/
section
namespace Go.Proofs.YtbmidhlilafgeaaGreatDoor.Word

def clip (n : Int) : Int := min (max n 0) 64
theorem clip_bd (n : Int) : 0 ≤ clip n ∧ clip n ≤ 64 := by unfold clip; omega
theorem clip_id (n : Int) (h : 0 ≤ n) (h2 : n ≤ 64) : clip n = n := by unfold clip; omega

/-- The word that has the run from lo to below hi. -/
def maskN (lo hi : Nat) : Nat := if hi ≤ lo then 0 else 2 ^ hi - 2 ^ lo
theorem maskN_lt (lo hi : Nat) (h : hi ≤ 64) : maskN lo hi < 2 ^ 64 := by
  unfold maskN; split
  · decide
  · have := Nat.pow_le_pow_right (n := 2) (by decide) h
    have := Nat.two_pow_pos lo
    omega
theorem maskN_eq (lo hi : Nat) (h : lo < hi) : maskN lo hi = 2 ^ lo * (2 ^ (hi - lo) - 1) := by
  unfold maskN; rw [if_neg (by omega), Nat.mul_sub, ← Nat.pow_add, Nat.mul_one, Nat.add_sub_cancel' (by omega)]
theorem testBit_maskN (lo hi i : Nat) : (maskN lo hi).testBit i = decide (lo ≤ i ∧ i < hi) := by
  by_cases h : lo < hi
  · rw [maskN_eq lo hi h, Nat.testBit_two_pow_mul, Nat.testBit_two_pow_sub_one]
    by_cases h1 : lo ≤ i <;> by_cases h2 : i < hi <;> simp [h1, h2] <;> omega
  · unfold maskN; rw [if_pos (by omega)]; simp; omega

/-- masks.Run -/
def runW (a b : Int) : Nat := maskN (clip a).toNat (clip b).toNat
theorem runW_lt (a b : Int) : runW a b < 2 ^ 64 := maskN_lt _ _ (by have := clip_bd b; omega)
theorem testBit_runW (a b : Int) (i : Nat) : (runW a b).testBit i = decide (a ≤ i ∧ (i : Int) < b ∧ i < 64) := by
  unfold runW; rw [testBit_maskN]
  apply decide_eq_decide.2
  unfold clip; omega
theorem runW_code (a b : Int) (h : clip a < clip b) :
    (18446744073709551615 / 2 ^ (64 - clip b + clip a).toNat * 2 ^ (clip a).toNat : Int) = (runW a b : Nat) := by
  have ha := clip_bd a
  have hb := clip_bd b
  unfold runW
  generalize clip a = A at *
  generalize clip b = B at *
  obtain ⟨x, rfl⟩ : ∃ x : Nat, A = x := ⟨A.toNat, by omega⟩
  obtain ⟨y, rfl⟩ : ∃ y : Nat, B = y := ⟨B.toNat, by omega⟩
  have h1 : (64 - (y : Int) + x).toNat = 64 - (y - x) := by omega
  rw [h1, Int.toNat_natCast, Int.toNat_natCast, maskN_eq x y (by omega)]
  have hp : 18446744073709551615 / 2 ^ (64 - (y - x)) = 2 ^ (y - x) - 1 := by
    have e1 : (18446744073709551615 : Nat) = 2 ^ (64 - (y - x)) * (2 ^ (y - x) - 1) + (2 ^ (64 - (y - x)) - 1) := by
      rw [Nat.mul_sub, ← Nat.pow_add, Nat.mul_one, show 64 - (y - x) + (y - x) = 64 by omega]
      have : 2 ^ (64 - (y - x)) ≤ 2 ^ 64 := Nat.pow_le_pow_right (by decide) (by omega)
      have := Nat.two_pow_pos (64 - (y - x))
      have e : (2 : Nat) ^ 64 = 18446744073709551616 := by decide
      omega
    rw [e1]
    have hpos := Nat.two_pow_pos (64 - (y - x))
    rw [Nat.mul_add_div hpos, Nat.div_eq_of_lt (by omega), Nat.add_zero]
  have : ((18446744073709551615 / 2 ^ (64 - (y - x)) * 2 ^ x : Nat) : Int) = ((2 ^ x * (2 ^ (y - x) - 1) : Nat) : Int) := by rw [hp, Nat.mul_comm]
  rw [← this]; simp

/-- How many bits are set. -/
def cnt (f : Nat → Bool) (n : Nat) : Nat := (List.range n).countP f
theorem cnt_zero (f : Nat → Bool) : cnt f 0 = 0 := rfl
theorem cnt_succ (f : Nat → Bool) (n : Nat) : cnt f (n + 1) = cnt f n + (f n).toNat := by
  unfold cnt; rw [List.range_succ, List.countP_append]; cases h : f n <;> simp [h]
theorem cnt_congr {f g : Nat → Bool} {n : Nat} (h : ∀ i, i < n → f i = g i) : cnt f n = cnt g n := by
  induction n with
  | zero => rfl
  | succ n ih => rw [cnt_succ, cnt_succ, ih (fun i hi => h i (by omega)), h n (by omega)]
theorem cnt_add (f : Nat → Bool) (m n : Nat) : cnt f (m + n) = cnt f m + cnt (fun i => f (m + i)) n := by
  induction n with
  | zero => simp [cnt_zero]
  | succ n ih => rw [← Nat.add_assoc, cnt_succ, cnt_succ, ih]; omega
theorem cnt_le (f : Nat → Bool) (n : Nat) : cnt f n ≤ n := by
  unfold cnt; have := List.countP_le_length (p := f) (l := List.range n); simpa using this
theorem cnt_mono (f : Nat → Bool) {m n : Nat} (h : m ≤ n) : cnt f m ≤ cnt f n := by
  obtain ⟨k, rfl⟩ : ∃ k, n = m + k := ⟨n - m, by omega⟩
  rw [cnt_add]; omega
theorem cnt_none {f : Nat → Bool} {n : Nat} (h : ∀ i, i < n → f i = false) : cnt f n = 0 := by
  induction n with
  | zero => rfl
  | succ n ih => rw [cnt_succ, ih (fun i hi => h i (by omega)), h n (by omega)]; rfl
theorem cnt_zero_iff {f : Nat → Bool} {n : Nat} (h : cnt f n = 0) : ∀ i, i < n → f i = false := by
  induction n with
  | zero => intro i hi; omega
  | succ n ih =>
    rw [cnt_succ] at h
    intro i hi
    by_cases e : i = n
    · subst e; cases hf : f i with
      | false => rfl
      | true => rw [hf] at h; simp at h
    · exact ih (by omega) i (by omega)
theorem cnt_or {f g : Nat → Bool} (h : ∀ i, (f i && g i) = false) (n : Nat) : cnt (fun i => f i || g i) n = cnt f n + cnt g n := by
  induction n with
  | zero => rfl
  | succ n ih =>
    rw [cnt_succ, cnt_succ, cnt_succ, ih]
    have := h n
    cases hf : f n <;> cases hg : g n <;> simp_all <;> omega

def pc (x : Nat) : Nat := cnt x.testBit 64
theorem pc_le (x : Nat) : pc x ≤ 64 := cnt_le _ _

/-! The count by halves, byte by byte. -/
def rep (m : Nat) : Nat → Nat
  | 0 => 0
  | k + 1 => m + 256 * rep m k
theorem and_step (b m y n : Nat) (hb : b < 256) (hm : m < 256) : (b + 256 * y) &&& (m + 256 * n) = (b &&& m) + 256 * (y &&& n) := by
  apply Nat.eq_of_testBit_eq
  intro i
  have e : ∀ c z : Nat, c < 256 → (c + 256 * z).testBit i = if i < 8 then c.testBit i else z.testBit (i - 8) := by
    intro c z hc
    have := Nat.testBit_two_pow_mul_add z (i := 8) (b := c) (by simpa using hc) i
    rw [show c + 256 * z = 2 ^ 8 * z + c by omega]
    exact this
  have hlt : b &&& m < 256 := Nat.lt_of_le_of_lt Nat.and_le_left hb
  rw [Nat.testBit_and, e b y hb, e m n hm, e _ _ hlt]
  split <;> rw [Nat.testBit_and]
def s1 (k x : Nat) : Nat := ((x / 2) &&& rep 0x55 k) + (x &&& rep 0x55 k)
def s2 (k x : Nat) : Nat := ((x / 4) &&& rep 0x33 k) + (x &&& rep 0x33 k)
def s3 (k x : Nat) : Nat := (x / 16 + x) &&& rep 0x0f k
def b1 (b : Nat) : Nat := ((b / 2) &&& 0x55) + (b &&& 0x55)
def b2 (b : Nat) : Nat := ((b / 4) &&& 0x33) + (b &&& 0x33)
def b3 (b : Nat) : Nat := (b / 16 + b) &&& 0x0f
theorem s1_step (k b y : Nat) (hb : b < 256) : s1 (k + 1) (b + 256 * y) = b1 b + 256 * s1 k y := by
  unfold s1 b1
  rw [show rep 0x55 (k + 1) = 0x55 + 256 * rep 0x55 k from rfl]
  have e : (b + 256 * y) / 2 = (b / 2 + 128 * (y % 2)) + 256 * (y / 2) := by omega
  have h2 : y % 2 < 2 := by omega
  rw [e, and_step _ _ _ _ (by omega) (by decide), and_step _ _ _ _ hb (by decide)]
  have : ((b / 2 + 128 * (y % 2)) &&& 0x55) = (b / 2) &&& 0x55 := by
    generalize y % 2 = c at h2
    have hall : ∀ b, b < 256 → ∀ c, c < 2 → ((b / 2 + 128 * c) &&& 0x55) = (b / 2) &&& 0x55 := by decide +kernel
    exact hall b hb c h2
  rw [this]; omega
theorem s2_step (k b y : Nat) (hb : b < 256) : s2 (k + 1) (b + 256 * y) = b2 b + 256 * s2 k y := by
  unfold s2 b2
  rw [show rep 0x33 (k + 1) = 0x33 + 256 * rep 0x33 k from rfl]
  have e : (b + 256 * y) / 4 = (b / 4 + 64 * (y % 4)) + 256 * (y / 4) := by omega
  have h2 : y % 4 < 4 := by omega
  rw [e, and_step _ _ _ _ (by omega) (by decide), and_step _ _ _ _ hb (by decide)]
  have : ((b / 4 + 64 * (y % 4)) &&& 0x33) = (b / 4) &&& 0x33 := by
    generalize y % 4 = c at h2
    have hall : ∀ b, b < 256 → ∀ c, c < 4 → ((b / 4 + 64 * c) &&& 0x33) = (b / 4) &&& 0x33 := by decide +kernel
    exact hall b hb c h2
  rw [this]; omega
theorem s3_step (k b y : Nat) (hb : b ≤ 0x44) (h16 : b % 16 ≤ 4) (hy : y % 16 ≤ 4) : s3 (k + 1) (b + 256 * y) = b3 b + 256 * s3 k y := by
  unfold s3 b3
  rw [show rep 0x0f (k + 1) = 0x0f + 256 * rep 0x0f k from rfl]
  have e : (b + 256 * y) / 16 + (b + 256 * y) = (b / 16 + 16 * (y % 16) + b) + 256 * (y / 16 + y) := by omega
  rw [e, and_step _ _ _ _ (by omega) (by decide)]
  have : ((b / 16 + 16 * (y % 16) + b) &&& 0x0f) = (b / 16 + b) &&& 0x0f := by
    generalize y % 16 = c at hy
    have hall : ∀ b, b < 69 → ∀ c, c < 5 → ((b / 16 + 16 * c + b) &&& 0x0f) = (b / 16 + b) &&& 0x0f := by decide +kernel
    exact hall b (by omega) c (by omega)
  rw [this]
def t (k x : Nat) : Nat := s3 k (s2 k (s1 k x))
theorem bytes_ok : ∀ b, b < 256 → b1 b < 256 ∧ b2 (b1 b) ≤ 0x44 ∧ b2 (b1 b) % 16 ≤ 4 ∧ b3 (b2 (b1 b)) = (List.range 8).countP b.testBit := by decide +kernel
theorem s2_mod (k y : Nat) : s2 k (s1 k y) % 16 ≤ 4 := by
  cases k with
  | zero => simp [s2, rep]
  | succ k =>
    have e : y = y % 256 + 256 * (y / 256) := by omega
    have hb : y % 256 < 256 := by omega
    obtain ⟨h1, h2, h3, _⟩ := bytes_ok _ hb
    rw [e, s1_step k _ _ hb, s2_step k _ _ h1]; omega
theorem t_step (k b y : Nat) (hb : b < 256) : t (k + 1) (b + 256 * y) = (List.range 8).countP b.testBit + 256 * t k y := by
  obtain ⟨h1, h2, h3, h4⟩ := bytes_ok b hb
  unfold t
  rw [s1_step k b y hb, s2_step k _ _ h1, s3_step k _ _ h2 h3 (s2_mod k y), h4]
def byteSum : Nat → Nat → Nat
  | 0, _ => 0
  | k + 1, x => (List.range 8).countP (x % 256).testBit + 256 * byteSum k (x / 256)
theorem t_eq (k : Nat) : ∀ x, t k x = byteSum k x := by
  induction k with
  | zero => intro x; simp [t, s3, rep, byteSum]
  | succ k ih =>
    intro x
    have e : x = x % 256 + 256 * (x / 256) := by omega
    rw [e, t_step k _ _ (by omega), ih, byteSum]
    congr 3 <;> omega
theorem cnt_bytes (k : Nat) : ∀ x, cnt x.testBit (8 * (k + 1)) = (List.range 8).countP (x % 256).testBit + cnt (x / 256).testBit (8 * k) := by
  intro x
  rw [show 8 * (k + 1) = 8 + 8 * k by omega, cnt_add]
  congr 1
  · apply cnt_congr
    intro i hi
    have := Nat.testBit_mod_two_pow x 8 i
    simp only [show (2 : Nat) ^ 8 = 256 from rfl] at this
    rw [this]; simp [hi]
  · apply cnt_congr
    intro i _
    have := Nat.testBit_div_two_pow (x := x) (n := 8) (i := i)
    simp only [show (2 : Nat) ^ 8 = 256 from rfl] at this
    rw [this, Nat.add_comm]
theorem countP8_le (b : Nat) : (List.range 8).countP b.testBit ≤ 8 := by
  have := List.countP_le_length (p := b.testBit) (l := List.range 8); simpa using this
theorem div_lo (lo q m : Nat) (h : lo < m) : (lo + m * q) / m = q := by
  rw [Nat.add_mul_div_left _ _ (by omega), Nat.div_eq_of_lt h]; omega
theorem fold_num (y c0 c1 c2 c3 c4 c5 c6 c7 : Nat)
    (hy : y = c0 + 256 * (c1 + 256 * (c2 + 256 * (c3 + 256 * (c4 + 256 * (c5 + 256 * (c6 + 256 * (c7 + 256 * 0))))))))
    (a0 : c0 ≤ 8) (a1 : c1 ≤ 8) (a2 : c2 ≤ 8) (a3 : c3 ≤ 8) (a4 : c4 ≤ 8) (a5 : c5 ≤ 8) (a6 : c6 ≤ 8) (a7 : c7 ≤ 8) :
    let z1 := (y + y / 256) % 18446744073709551616
    let z2 := (z1 + z1 / 65536) % 18446744073709551616
    let z3 := (z2 + z2 / 4294967296) % 18446744073709551616
    z3 % 128 = c0 + (c1 + (c2 + (c3 + (c4 + (c5 + (c6 + (c7 + 0))))))) := by
  have e1 : y / 256 = c1 + 256 * (c2 + 256 * (c3 + 256 * (c4 + 256 * (c5 + 256 * (c6 + 256 * c7))))) := by
    rw [hy, div_lo _ _ _ (by omega)]; omega
  have m1 : (y + y / 256) % 18446744073709551616 = (c0 + c1) + 256 * (c1 + c2) + 65536 * ((c2 + c3) + 256 * (c3 + c4) + 65536 * ((c4 + c5) + 256 * (c5 + c6) + 65536 * ((c6 + c7) + 256 * c7))) := by
    rw [e1, Nat.mod_eq_of_lt (by omega)]; omega
  simp only [m1]
  clear m1 e1 hy y
  have d2 : ((c0 + c1) + 256 * (c1 + c2) + 65536 * ((c2 + c3) + 256 * (c3 + c4) + 65536 * ((c4 + c5) + 256 * (c5 + c6) + 65536 * ((c6 + c7) + 256 * c7)))) / 65536 = (c2 + c3) + 256 * (c3 + c4) + 65536 * ((c4 + c5) + 256 * (c5 + c6) + 65536 * ((c6 + c7) + 256 * c7)) :=
    div_lo _ _ _ (by omega)
  rw [d2]
  have m2 : ((c0 + c1) + 256 * (c1 + c2) + 65536 * ((c2 + c3) + 256 * (c3 + c4) + 65536 * ((c4 + c5) + 256 * (c5 + c6) + 65536 * ((c6 + c7) + 256 * c7))) + ((c2 + c3) + 256 * (c3 + c4) + 65536 * ((c4 + c5) + 256 * (c5 + c6) + 65536 * ((c6 + c7) + 256 * c7)))) % 18446744073709551616 =
      ((c0 + c1 + c2 + c3) + 256 * (c1 + c2 + c3 + c4) + 65536 * (c2 + c3 + c4 + c5) + 16777216 * (c3 + c4 + c5 + c6)) + 4294967296 * ((c4 + c5 + c6 + c7) + 256 * (c5 + c6 + c7) + 65536 * (c6 + c7) + 16777216 * c7) := by
    rw [Nat.mod_eq_of_lt (by omega)]; omega
  rw [m2]
  clear m2 d2
  rw [div_lo _ _ 4294967296 (by omega)]
  have hm : ∀ X : Nat, X < 18446744073709551616 → X % 18446744073709551616 % 128 = X % 128 := fun X h => by rw [Nat.mod_eq_of_lt h]
  rw [hm _ (by omega)]
  omega
/-- The last four lines of math/bits.OnesCount64. -/
theorem fold_ok (y : Nat) (x : Nat) (hy : y = t 8 x) :
    let z1 := (y + y / 256) % 18446744073709551616
    let z2 := (z1 + z1 / 65536) % 18446744073709551616
    let z3 := (z2 + z2 / 4294967296) % 18446744073709551616
    z3 % 128 = pc x := by
  rw [t_eq] at hy
  have hp : pc x = cnt x.testBit (8 * 8) := rfl
  rw [hp]
  rw [cnt_bytes 7, cnt_bytes 6, cnt_bytes 5, cnt_bytes 4, cnt_bytes 3, cnt_bytes 2, cnt_bytes 1, cnt_bytes 0]
  rw [byteSum, byteSum, byteSum, byteSum, byteSum, byteSum, byteSum, byteSum, byteSum] at hy
  simp only [Nat.mul_zero, cnt_zero] at *
  have h := countP8_le
  have a0 := h (x % 256)
  have a1 := h (x / 256 % 256)
  have a2 := h (x / 256 / 256 % 256)
  have a3 := h (x / 256 / 256 / 256 % 256)
  have a4 := h (x / 256 / 256 / 256 / 256 % 256)
  have a5 := h (x / 256 / 256 / 256 / 256 / 256 % 256)
  have a6 := h (x / 256 / 256 / 256 / 256 / 256 / 256 % 256)
  have a7 := h (x / 256 / 256 / 256 / 256 / 256 / 256 / 256 % 256)
  revert hy a0 a1 a2 a3 a4 a5 a6 a7
  generalize (List.range 8).countP (x % 256).testBit = c0
  generalize (List.range 8).countP (x / 256 % 256).testBit = c1
  generalize (List.range 8).countP (x / 256 / 256 % 256).testBit = c2
  generalize (List.range 8).countP (x / 256 / 256 / 256 % 256).testBit = c3
  generalize (List.range 8).countP (x / 256 / 256 / 256 / 256 % 256).testBit = c4
  generalize (List.range 8).countP (x / 256 / 256 / 256 / 256 / 256 % 256).testBit = c5
  generalize (List.range 8).countP (x / 256 / 256 / 256 / 256 / 256 / 256 % 256).testBit = c6
  generalize (List.range 8).countP (x / 256 / 256 / 256 / 256 / 256 / 256 / 256 % 256).testBit = c7
  intro hy a0 a1 a2 a3 a4 a5 a6 a7
  exact fold_num y c0 c1 c2 c3 c4 c5 c6 c7 hy a0 a1 a2 a3 a4 a5 a6 a7
end Go.Proofs.YtbmidhlilafgeaaGreatDoor.Word
end

section
namespace Go.Proofs.YtbmidhlilafgeaaGreatDoor.Word

/-- The least number below n that f holds of; else n. -/
def first (f : Nat → Bool) : Nat → Nat
  | 0 => 0
  | n + 1 => if first f n < n then first f n else if f n then n else n + 1
theorem first_le (f : Nat → Bool) (n : Nat) : first f n ≤ n := by
  induction n with
  | zero => simp [first]
  | succ n ih => unfold first; split <;> (try split) <;> omega
theorem first_not (f : Nat → Bool) (n : Nat) : ∀ i, i < first f n → f i = false := by
  induction n with
  | zero => intro i hi; simp [first] at hi
  | succ n ih =>
    intro i hi
    unfold first at hi
    have hl := first_le f n
    split at hi
    · exact ih i hi
    · have e : first f n = n := by omega
      split at hi
      · exact ih i (by omega)
      · rename_i hf
        by_cases h : i < n
        · exact ih i (by omega)
        · obtain rfl : i = n := by omega
          simpa using hf
theorem first_at (f : Nat → Bool) (n : Nat) (h : first f n < n) : f (first f n) = true := by
  induction n with
  | zero => omega
  | succ n ih =>
    unfold first at h ⊢
    split
    · rename_i hl; exact ih hl
    · split
      · assumption
      · rename_i h1 h2; rw [if_neg h1, if_neg h2] at h; omega
theorem first_eq {f : Nat → Bool} {n k : Nat} (hk : k ≤ n) (hn : ∀ i, i < k → f i = false) (ha : k < n → f k = true) : first f n = k := by
  have h1 := first_le f n
  have h2 := first_not f n
  have h3 := first_at f n
  rcases Nat.lt_trichotomy (first f n) k with h | h | h
  · have := hn _ h; rw [h3 (by omega)] at this; cases this
  · exact h
  · have := h2 _ h; rw [ha (by omega)] at this; cases this
theorem first_congr {f g : Nat → Bool} {n : Nat} (h : ∀ i, i < n → f i = g i) : first f n = first g n :=
  first_eq (first_le g n) (fun i hi => by rw [h i (by have := first_le g n; omega)]; exact first_not g n i hi) (fun hl => by rw [h _ hl]; exact first_at g n hl)

/-- The greatest number below n that f holds of; else -1. -/
def last (f : Nat → Bool) : Nat → Int
  | 0 => -1
  | n + 1 => if f n then n else last f n
theorem last_bd (f : Nat → Bool) (n : Nat) : -1 ≤ last f n ∧ last f n < n := by
  induction n with
  | zero => simp [last]
  | succ n ih => unfold last; split <;> omega
theorem last_not (f : Nat → Bool) (n : Nat) : ∀ i : Nat, last f n < i → i < n → f i = false := by
  induction n with
  | zero => intro i _ hi; omega
  | succ n ih =>
    intro i h hi
    unfold last at h
    split at h
    · omega
    · rename_i hf
      by_cases e : i < n
      · exact ih i h e
      · obtain rfl : i = n := by omega
        simpa using hf
theorem last_at (f : Nat → Bool) (n : Nat) (h : 0 ≤ last f n) : f (last f n).toNat = true := by
  induction n with
  | zero => simp [last] at h
  | succ n ih =>
    unfold last at h ⊢
    split
    · simpa using ‹f n = true›
    · rename_i hf; rw [if_neg hf] at h; exact ih h
theorem last_eq {f : Nat → Bool} {n : Nat} {k : Int} (hk : -1 ≤ k) (hkn : k < n) (hn : ∀ i : Nat, k < i → i < n → f i = false) (ha : 0 ≤ k → f k.toNat = true) : last f n = k := by
  have h1 := last_bd f n
  have h2 := last_not f n
  have h3 := last_at f n
  by_cases e : last f n = k
  · exact e
  · by_cases h : last f n < k
    · have := h2 k.toNat (by omega) (by omega); rw [ha (by omega)] at this; cases this
    · have := hn (last f n).toNat (by omega) (by omega); rw [h3 (by omega)] at this; cases this
theorem last_congr {f g : Nat → Bool} {n : Nat} (h : ∀ i, i < n → f i = g i) : last f n = last g n := by
  induction n with
  | zero => rfl
  | succ n ih => unfold last; rw [h n (by omega), ih (fun i hi => h i (by omega))]

/-! Trailing zeros. -/
def tz (x : Nat) : Nat := first x.testBit 64
theorem tz_zero : tz 0 = 64 := by decide +kernel
theorem tz_le (x : Nat) : tz x ≤ 64 := first_le _ _
theorem zero_of_bits {x : Nat} (hx : x < 2 ^ 64) (h : ∀ i, i < 64 → x.testBit i = false) : x = 0 := by
  apply Nat.eq_of_testBit_eq
  intro i
  by_cases hi : i < 64
  · rw [h i hi]; simp
  · rw [Nat.testBit_lt_two_pow (Nat.lt_of_lt_of_le hx (Nat.pow_le_pow_right (by decide) (by omega)))]; simp
theorem tz_lt {x : Nat} (hx : x < 2 ^ 64) (h0 : x ≠ 0) : tz x < 64 := by
  have := tz_le x
  rcases Nat.lt_or_ge (tz x) 64 with h | h
  · exact h
  · exact absurd (zero_of_bits hx (fun i hi => first_not _ 64 i (by unfold tz at h; omega))) h0
theorem and_mul_two_pow (a b k : Nat) : (2 ^ k * a) &&& (2 ^ k * b) = 2 ^ k * (a &&& b) := by
  apply Nat.eq_of_testBit_eq
  intro i
  rw [Nat.testBit_and, Nat.testBit_two_pow_mul, Nat.testBit_two_pow_mul, Nat.testBit_two_pow_mul, Nat.testBit_and]
  by_cases h : k ≤ i <;> simp [h]
theorem low_bit (k n m : Nat) (h : 2 ^ k * (2 * m + 1) < 2 ^ n) : (2 ^ k * (2 * m + 1)) &&& (2 ^ n - 2 ^ k * (2 * m + 1)) = 2 ^ k := by
  have hp := Nat.two_pow_pos k
  have hkn : k < n := by
    rcases Nat.lt_or_ge k n with h1 | h1
    · exact h1
    · have := Nat.pow_le_pow_right (n := 2) (by decide) h1
      have : 2 ^ k * 1 ≤ 2 ^ k * (2 * m + 1) := Nat.mul_le_mul_left _ (by omega)
      omega
  have hm : 2 * m + 1 < 2 ^ (n - k) := by
    have e : 2 ^ n = 2 ^ k * 2 ^ (n - k) := by rw [← Nat.pow_add]; congr 1; omega
    rw [e] at h
    exact Nat.lt_of_mul_lt_mul_left h
  have e1 : 2 ^ n - 2 ^ k * (2 * m + 1) = 2 ^ k * (2 ^ (n - k) - (2 * m + 1)) := by
    rw [Nat.mul_sub, ← Nat.pow_add]; congr 2; omega
  rw [e1, and_mul_two_pow]
  have e2 : 2 ^ (n - k) = 2 * 2 ^ (n - k - 1) := by rw [← Nat.pow_succ']; congr 1; omega
  have e3 : 2 ^ (n - k) - (2 * m + 1) = 2 * (2 ^ (n - k - 1) - (m + 1)) + 1 := by omega
  rw [e3]
  have : (2 * m + 1) &&& (2 * (2 ^ (n - k - 1) - (m + 1)) + 1) = 1 := by
    apply Nat.eq_of_testBit_eq
    intro i
    cases i with
    | zero => simp [Nat.testBit_zero]
    | succ i =>
      rw [Nat.testBit_and, Nat.testBit_succ, Nat.testBit_succ, Nat.testBit_succ]
      rw [show (2 * m + 1) / 2 = m by omega, show (2 * (2 ^ (n - k - 1) - (m + 1)) + 1) / 2 = 2 ^ (n - k - 1) - (m + 1) by omega]
      rw [Nat.testBit_two_pow_sub_succ (by omega)]
      cases h : m.testBit i <;> simp
  rw [this, Nat.mul_one]
theorem tz_split {x : Nat} (hx : x < 2 ^ 64) (h0 : x ≠ 0) : ∃ m, x = 2 ^ tz x * (2 * m + 1) := by
  have hl := tz_lt hx h0
  have h1 := first_not x.testBit 64
  have h2 := first_at x.testBit 64 (by unfold tz at hl; exact hl)
  change ∀ i, i < tz x → _ at h1
  change x.testBit (tz x) = true at h2
  generalize tz x = k at *
  have hd : x % 2 ^ k = 0 := by
    apply Nat.eq_of_testBit_eq
    intro i
    rw [Nat.testBit_mod_two_pow]
    by_cases hi : i < k
    · simp [h1 i hi]
    · simp [hi]
  have hq : (x / 2 ^ k) % 2 = 1 := by
    rw [Nat.testBit_eq_decide_div_mod_eq] at h2
    simpa using h2
  refine ⟨x / 2 ^ k / 2, ?_⟩
  have := Nat.div_add_mod x (2 ^ k)
  rw [hd, Nat.add_zero] at this
  have e : 2 * (x / 2 ^ k / 2) + 1 = x / 2 ^ k := by omega
  rw [e]; exact this.symm
theorem tz_and {x : Nat} (hx : x < 2 ^ 64) (h0 : x ≠ 0) : x &&& (2 ^ 64 - x) = 2 ^ tz x := by
  obtain ⟨m, hm⟩ := tz_split hx h0
  have := low_bit (tz x) 64 m (by rw [← hm]; exact hx)
  rwa [← hm] at this
def tab : List Nat := [0, 1, 56, 2, 57, 49, 28, 3, 61, 58, 42, 50, 38, 29, 17, 4, 62, 47, 59, 36, 45, 43, 51, 22, 53, 39, 33, 30, 24, 18, 12, 5, 63, 55, 48, 27, 60, 41, 37, 16, 46, 35, 44, 21, 52, 32, 23, 11, 54, 26, 40, 15, 34, 20, 31, 10, 25, 14, 19, 9, 13, 8, 7, 6]
theorem tab_ok : ∀ k, k < 64 → 2 ^ k * 285870213051353865 % 18446744073709551616 / 288230376151711744 < 64 ∧ tab.getD (2 ^ k * 285870213051353865 % 18446744073709551616 / 288230376151711744) 0 = k := by decide +kernel
/-- math/bits.TrailingZeros64: the table's entry. -/
def tzIx (x : Nat) : Nat := (x &&& (18446744073709551616 - x)) * 285870213051353865 % 18446744073709551616 / 288230376151711744
theorem tzIx_ok {x : Nat} (hx : x < 18446744073709551616) (h0 : x ≠ 0) : tzIx x < 64 ∧ tab.getD (tzIx x) 0 = tz x := by
  unfold tzIx
  have := tz_and (show x < 2 ^ 64 from hx) h0
  rw [show (2 : Nat) ^ 64 = 18446744073709551616 from rfl] at this
  rw [this]
  exact tab_ok _ (tz_lt hx h0)

/-! The length. -/
def len (x : Nat) : Int := last x.testBit 64 + 1
theorem len_bd (x : Nat) : 0 ≤ len x ∧ len x ≤ 64 := by unfold len; have := last_bd x.testBit 64; omega
theorem len_shift {x j : Nat} (hx : x < 2 ^ 64) (h : 2 ^ j ≤ x) : len x = j + len (x / 2 ^ j) := by
  have hq : 1 ≤ x / 2 ^ j := (Nat.le_div_iff_mul_le (Nat.two_pow_pos j)).2 (by omega)
  have hq2 : x / 2 ^ j < 2 ^ 64 := Nat.lt_of_le_of_lt (Nat.div_le_self _ _) hx
  have tb : ∀ i, (x / 2 ^ j).testBit i = x.testBit (i + j) := fun i => by
    rw [Nat.testBit_div_two_pow]
  have b := last_bd (x / 2 ^ j).testBit 64
  have nn := last_not (x / 2 ^ j).testBit 64
  have at_ := last_at (x / 2 ^ j).testBit 64
  have h0 : 0 ≤ last (x / 2 ^ j).testBit 64 := by
    rcases Int.lt_or_le (last (x / 2 ^ j).testBit 64) 0 with h | h
    · have := zero_of_bits hq2 (fun i hi => nn i (by omega) hi); omega
    · exact h
  have hat := at_ h0
  unfold len
  generalize last (x / 2 ^ j).testBit 64 = L at *
  have high : ∀ i, 64 ≤ i → x.testBit i = false := fun i hi => Nat.testBit_lt_two_pow (Nat.lt_of_lt_of_le hx (Nat.pow_le_pow_right (by decide) hi))
  rw [tb] at hat
  have hlt : L.toNat + j < 64 := by
    rcases Nat.lt_or_ge (L.toNat + j) 64 with h | h
    · exact h
    · rw [high _ h] at hat; cases hat
  have : last x.testBit 64 = L + j := by
    refine last_eq (by omega) (by omega) (fun i hi hi2 => ?_) (fun _ => ?_)
    · have := nn (i - j) (by omega) (by omega)
      rw [tb] at this
      rwa [show i - j + j = i by omega] at this
    · rwa [show (L + (j : Int)).toNat = L.toNat + j by omega]
  rw [this]; omega

/-! The one of which so many less ones are. -/
def pickF (f : Nat → Bool) (n k : Nat) : Nat := first (fun i => f i && cnt f i == k) n
theorem cnt_lt {f : Nat → Bool} {i j : Nat} (hij : i < j) (hi : f i = true) : cnt f i < cnt f j := by
  have := cnt_mono f (show i + 1 ≤ j from hij)
  rw [cnt_succ, hi] at this; simp at this; omega
theorem pickF_eq {f : Nat → Bool} {n k i : Nat} (hi : i < n) (hf : f i = true) (hc : cnt f i = k) : pickF f n k = i := by
  refine first_eq (by omega) (fun j hj => ?_) (fun _ => by simp [hf, hc])
  cases hfj : f j with
  | false => simp
  | true => have := cnt_lt hj hfj; simp; omega
theorem cnt_hit {f : Nat → Bool} {n k : Nat} (h : k < cnt f n) : ∃ i, i < n ∧ f i = true ∧ cnt f i = k := by
  induction n with
  | zero => simp [cnt_zero] at h
  | succ n ih =>
    by_cases h2 : k < cnt f n
    · obtain ⟨i, a, b, c⟩ := ih h2; exact ⟨i, by omega, b, c⟩
    · rw [cnt_succ] at h
      cases hf : f n with
      | false => rw [hf] at h; simp at h; omega
      | true => rw [hf] at h; simp at h; exact ⟨n, by omega, hf, by omega⟩
theorem pickF_lt {f : Nat → Bool} {n k : Nat} (h : k < cnt f n) : pickF f n k < n ∧ f (pickF f n k) = true ∧ cnt f (pickF f n k) = k := by
  obtain ⟨i, a, b, c⟩ := cnt_hit h
  rw [pickF_eq a b c]; exact ⟨a, b, c⟩
theorem pickF_none {f : Nat → Bool} {n k : Nat} (h : cnt f n ≤ k) : pickF f n k = n := by
  refine first_eq (by omega) (fun j hj => ?_) (fun h => by omega)
  cases hfj : f j with
  | false => simp
  | true => have := cnt_lt hj hfj; simp; omega
/-- The count of a run inside a word. -/
theorem pc_run (x lo hi : Nat) (h1 : lo ≤ hi) (h2 : hi ≤ 64) : cnt x.testBit lo + pc (x &&& runW lo hi) = cnt x.testBit hi := by
  have e : pc (x &&& runW lo hi) = cnt (fun i => x.testBit (lo + i)) (hi - lo) := by
    have : cnt (x &&& runW lo hi).testBit 64 = cnt (x &&& runW lo hi).testBit (lo + ((hi - lo) + (64 - hi))) := by congr 1; omega
    unfold pc; rw [this, cnt_add, cnt_add]
    have tb : ∀ i, (x &&& runW lo hi).testBit i = (x.testBit i && decide (lo ≤ i ∧ i < hi ∧ i < 64)) := fun i => by
      rw [Nat.testBit_and, testBit_runW]; congr 1; apply decide_eq_decide.2; omega
    have z1 : cnt (x &&& runW lo hi).testBit lo = 0 := cnt_none (fun i hi' => by rw [tb]; simp; omega)
    have z2 : cnt (fun i => (x &&& runW lo hi).testBit (lo + (hi - lo + i))) (64 - hi) = 0 := cnt_none (fun i hi' => by rw [tb]; simp; omega)
    have z3 : cnt (fun i => (x &&& runW lo hi).testBit (lo + i)) (hi - lo) = cnt (fun i => x.testBit (lo + i)) (hi - lo) := cnt_congr (fun i hi' => by
      rw [tb, decide_eq_true (by omega), Bool.and_true])
    rw [z1, z2, z3]; omega
  rw [e, ← cnt_add]; congr 1; omega
theorem runW_all : runW 0 64 = 18446744073709551615 := by decide +kernel
theorem and_all (x : Nat) (hx : x < 18446744073709551616) : x &&& runW 0 64 = x := by
  rw [runW_all]; exact Nat.and_two_pow_sub_one_of_lt_two_pow (n := 64) hx

end Go.Proofs.YtbmidhlilafgeaaGreatDoor.Word
end

section
namespace Go.Proofs.YtbmidhlilafgeaaGreatDoor.Word

def ofBits (f : Nat → Bool) : Nat → Nat
  | 0 => 0
  | n + 1 => ofBits f n + (f n).toNat * 2 ^ n
theorem ofBits_lt (f : Nat → Bool) (n : Nat) : ofBits f n < 2 ^ n := by
  induction n with
  | zero => simp [ofBits]
  | succ n ih => unfold ofBits; rw [Nat.pow_succ]; cases f n <;> simp <;> omega
theorem testBit_ofBits (f : Nat → Bool) (n i : Nat) : (ofBits f n).testBit i = (decide (i < n) && f i) := by
  induction n with
  | zero => simp [ofBits]
  | succ n ih =>
    unfold ofBits
    have hl := ofBits_lt f n
    have e : ofBits f n + (f n).toNat * 2 ^ n = 2 ^ n * (f n).toNat + ofBits f n := by rw [Nat.mul_comm]; omega
    rw [e, Nat.testBit_two_pow_mul_add _ hl]
    split
    · rename_i h; rw [ih]; simp [h]; omega
    · rename_i h
      by_cases hi : i = n
      · subst hi; cases h2 : f i <;> simp
      · have h3 : ¬ i < n + 1 := by omega
        simp only [h3, decide_false, Bool.false_and]
        have h4 : i - n ≠ 0 := by omega
        cases f n
        · simp
        · simp only [Bool.toNat_true]
          rw [Nat.testBit_lt_two_pow]
          exact Nat.one_lt_two_pow h4

/-- How many words. -/
def nw (l : List Bool) : Nat := (l.length + 63) / 64
/-- The word number i. -/
def wordOf (l : List Bool) (i : Nat) : Nat := ofBits (fun j => l.getD (64 * i + j) false) 64
theorem wordOf_lt (l : List Bool) (i : Nat) : wordOf l i < 18446744073709551616 := ofBits_lt _ 64
theorem testBit_wordOf (l : List Bool) (i j : Nat) : (wordOf l i).testBit j = (decide (j < 64) && l.getD (64 * i + j) false) := testBit_ofBits _ _ _
theorem word_ext {x y : Nat} (hx : x < 18446744073709551616) (hy : y < 18446744073709551616) (h : ∀ j, j < 64 → x.testBit j = y.testBit j) : x = y := by
  apply Nat.eq_of_testBit_eq
  intro i
  by_cases hi : i < 64
  · exact h i hi
  · have hp : 2 ^ 64 ≤ 2 ^ i := Nat.pow_le_pow_right (by decide) (by omega)
    rw [Nat.testBit_lt_two_pow (Nat.lt_of_lt_of_le hx hp), Nat.testBit_lt_two_pow (Nat.lt_of_lt_of_le hy hp)]
theorem wordOf_eq {l : List Bool} {i x : Nat} (hx : x < 18446744073709551616) (h : ∀ j, j < 64 → x.testBit j = l.getD (64 * i + j) false) : x = wordOf l i :=
  word_ext hx (wordOf_lt l i) (fun j hj => by rw [h j hj, testBit_wordOf]; simp [hj])
theorem wordOf_congr {l m : List Bool} {i : Nat} (h : ∀ j, j < 64 → l.getD (64 * i + j) false = m.getD (64 * i + j) false) : wordOf l i = wordOf m i :=
  wordOf_eq (wordOf_lt l i) (fun j hj => by rw [testBit_wordOf, ← h j hj]; simp [hj])
/-- a without the bits of b. -/
def andN (a b : Nat) : Nat := a &&& (18446744073709551615 - b % 18446744073709551616)
theorem andN_lt (a b : Nat) (ha : a < 18446744073709551616) : andN a b < 18446744073709551616 := Nat.lt_of_le_of_lt Nat.and_le_left ha
theorem testBit_andN (a b j : Nat) (hj : j < 64) : (andN a b).testBit j = (a.testBit j && !b.testBit j) := by
  unfold andN
  rw [Nat.testBit_and]
  have h : b % 18446744073709551616 < 2 ^ 64 := Nat.mod_lt _ (by decide)
  have := Nat.testBit_two_pow_sub_succ h j
  rw [show 2 ^ 64 - (b % 18446744073709551616 + 1) = 18446744073709551615 - b % 18446744073709551616 by omega] at this
  rw [this, show (18446744073709551616 : Nat) = 2 ^ 64 from rfl, Nat.testBit_mod_two_pow]
  simp [hj]
theorem or_lt {a b : Nat} (ha : a < 18446744073709551616) (hb : b < 18446744073709551616) : a ||| b < 18446744073709551616 := Nat.or_lt_two_pow (n := 64) ha hb

theorem getD_set (l : List Bool) (k i : Nat) (x : Bool) (hk : k < l.length) : (l.set k x).getD i false = if i = k then x else l.getD i false := by
  simp only [List.getD_eq_getElem?_getD, List.getElem?_set]
  by_cases h : k = i
  · subst h; simp [hk]
  · rw [if_neg h, if_neg (by omega)]
theorem testBit_two_pow_if (k j : Nat) : (2 ^ k).testBit j = decide (k = j) := by
  rw [Nat.testBit_two_pow]
theorem two_pow_lt64 (k : Nat) : 2 ^ (k % 64) < 18446744073709551616 := Nat.pow_lt_pow_right (by decide) (show k % 64 < 64 by omega)
theorem wordOf_set_on (l : List Bool) (k : Nat) (hk : k < l.length) : wordOf (l.set k true) (k / 64) = wordOf l (k / 64) ||| 2 ^ (k % 64) := by
  refine (wordOf_eq (or_lt (wordOf_lt _ _) (two_pow_lt64 k)) (fun j hj => ?_)).symm
  rw [Nat.testBit_or, testBit_wordOf, testBit_two_pow_if, getD_set l k _ _ hk]
  by_cases h : 64 * (k / 64) + j = k
  · rw [if_pos h, decide_eq_true (show k % 64 = j by omega)]; simp
  · rw [if_neg h, decide_eq_false (show ¬ k % 64 = j by omega)]; simp [hj]
theorem wordOf_set_off (l : List Bool) (k : Nat) (hk : k < l.length) : wordOf (l.set k false) (k / 64) = andN (wordOf l (k / 64)) (2 ^ (k % 64)) := by
  refine (wordOf_eq (andN_lt _ _ (wordOf_lt _ _)) (fun j hj => ?_)).symm
  rw [testBit_andN _ _ _ hj, testBit_wordOf, testBit_two_pow_if, getD_set l k _ _ hk]
  by_cases h : 64 * (k / 64) + j = k
  · rw [if_pos h, decide_eq_true (show k % 64 = j by omega)]; simp
  · rw [if_neg h, decide_eq_false (show ¬ k % 64 = j by omega)]; simp [hj]
theorem wordOf_set_other (l : List Bool) (k i : Nat) (x : Bool) (hk : k < l.length) (hi : i ≠ k / 64) : wordOf (l.set k x) i = wordOf l i :=
  wordOf_congr (fun j hj => by rw [getD_set l k _ _ hk, if_neg (by omega)])
theorem nw_set (l : List Bool) (k : Nat) (x : Bool) : nw (l.set k x) = nw l := by unfold nw; simp

/-! What is asked of a row of bits: by definition. -/
def at_ (l : List Bool) (i : Nat) : Bool := l.getD i false
theorem at_lt {l : List Bool} {i : Nat} (h : at_ l i = true) : i < l.length := by
  unfold at_ at h
  rcases Nat.lt_or_ge i l.length with h1 | h1
  · exact h1
  · rw [List.getD_eq_getElem?_getD, List.getElem?_eq_none h1] at h; simp at h
/-- The bits of a run. -/
def inRun (l : List Bool) (a b : Int) (i : Nat) : Bool := at_ l i && decide (a ≤ i ∧ (i : Int) < b)
def countL (l : List Bool) (a b : Int) : Nat := cnt (inRun l a b) l.length
/-- All bits of a run are so. -/
def layL (l : List Bool) (a b : Int) (x : Bool) : List Bool := l.mapIdx fun i y => if a ≤ i ∧ (i : Int) < b then x else y
theorem layL_length (l : List Bool) (a b : Int) (x : Bool) : (layL l a b x).length = l.length := by unfold layL; simp
theorem layL_at (l : List Bool) (a b : Int) (x : Bool) (i : Nat) (hi : i < l.length) : at_ (layL l a b x) i = if a ≤ i ∧ (i : Int) < b then x else at_ l i := by
  unfold at_ layL; simp [List.getD_eq_getElem?_getD, hi]
theorem at_out {l : List Bool} {i : Nat} (h : l.length ≤ i) : at_ l i = false := by
  unfold at_; rw [List.getD_eq_getElem?_getD, List.getElem?_eq_none h]; rfl
theorem ext_at {l m : List Bool} (hn : l.length = m.length) (h : ∀ i, i < l.length → at_ l i = at_ m i) : l = m := by
  apply List.ext_getElem hn
  intro i h1 h2
  have := h i h1
  unfold at_ at this
  simpa [List.getD_eq_getElem?_getD, h1, h2] using this
/-- How many bits of a run were not so. -/
def chgL (l : List Bool) (a b : Int) (x : Bool) : Nat := cnt (fun i => decide (a ≤ i ∧ (i : Int) < b) && (at_ l i != x)) l.length
def nextL (l : List Bool) (a : Int) : Nat := first (fun i => at_ l i && decide (a ≤ i)) l.length
def lastL (l : List Bool) (b : Int) : Int := last (fun i => at_ l i && decide ((i : Int) < b)) l.length
def pickL (l : List Bool) (k : Nat) : Nat := pickF (at_ l) l.length k
end Go.Proofs.YtbmidhlilafgeaaGreatDoor.Word
end

section
namespace Go.Proofs.YtbmidhlilafgeaaGreatDoor.Word

theorem tb_word (l : List Bool) (k j : Nat) (hj : j < 64) : (wordOf l k).testBit j = at_ l (64 * k + j) := by
  rw [testBit_wordOf]; simp [hj, at_]
theorem tb_from (l : List Bool) (k fr j : Nat) (hj : j < 64) : (wordOf l k &&& runW fr 64).testBit j = (at_ l (64 * k + j) && decide (fr ≤ j)) := by
  rw [Nat.testBit_and, testBit_runW, tb_word l k j hj]
  congr 1; apply decide_eq_decide.2; omega
theorem tb_below (l : List Bool) (k j : Nat) (b : Int) (hj : j < 64) : (wordOf l k &&& runW 0 b).testBit j = (at_ l (64 * k + j) && decide ((j : Int) < b)) := by
  rw [Nat.testBit_and, testBit_runW, tb_word l k j hj]
  congr 1; apply decide_eq_decide.2; omega
/-- No one from a to below m. -/
def noneTo (l : List Bool) (a m : Nat) : Prop := ∀ i, a ≤ i → i < m → at_ l i = false
theorem next_start (l : List Bool) (a : Nat) : noneTo l a (64 * (a / 64) + a % 64) := fun i h1 h2 => by omega
theorem next_hit {l : List Bool} {a k fr : Nat} (h : noneTo l a (64 * k + fr)) (ha : a ≤ 64 * k + fr) (ht : tz (wordOf l k &&& runW fr 64) < 64) :
    nextL l a = 64 * k + tz (wordOf l k &&& runW fr 64) ∧ nextL l a < l.length := by
  have h1 := first_at _ 64 ht
  have h2 := first_not (wordOf l k &&& runW fr 64).testBit 64
  change (wordOf l k &&& runW fr 64).testBit (tz _) = true at h1
  change ∀ i, i < tz _ → _ at h2
  generalize tz (wordOf l k &&& runW fr 64) = t at *
  rw [tb_from l k fr t ht] at h1
  simp only [Bool.and_eq_true, decide_eq_true_eq] at h1
  have hl := at_lt h1.1
  have e : nextL l a = 64 * k + t := by
    refine first_eq (by omega) (fun i hi => ?_) (fun _ => by simp [h1.1]; omega)
    by_cases hai : a ≤ i
    · by_cases hf : i < 64 * k + fr
      · rw [h i hai hf]; simp
      · have := h2 (i - 64 * k) (by omega)
        rw [tb_from l k fr _ (by omega), show 64 * k + (i - 64 * k) = i by omega, decide_eq_true (show fr ≤ i - 64 * k by omega), Bool.and_true] at this
        rw [this]; simp
    · have : ¬ ((a : Int) ≤ i) := by omega
      simp [this]
  exact ⟨e, by omega⟩
theorem next_miss {l : List Bool} {a k fr : Nat} (h : noneTo l a (64 * k + fr)) (hfr : fr ≤ 64) (ht : ¬ tz (wordOf l k &&& runW fr 64) < 64) : noneTo l a (64 * (k + 1) + 0) := by
  intro i h1 h2
  by_cases hf : i < 64 * k + fr
  · exact h i h1 hf
  · have hn := first_not (wordOf l k &&& runW fr 64).testBit 64 (i - 64 * k) (by have := tz_le (wordOf l k &&& runW fr 64); unfold tz at *; omega)
    rw [tb_from l k fr _ (by omega), show 64 * k + (i - 64 * k) = i by omega, decide_eq_true (show fr ≤ i - 64 * k by omega), Bool.and_true] at hn
    exact hn
theorem next_none {l : List Bool} {a k fr : Nat} (h : noneTo l a (64 * k + fr)) (hk : nw l ≤ k) : nextL l a = l.length := by
  refine first_eq (by omega) (fun i hi => ?_) (fun h => by omega)
  by_cases hai : a ≤ i
  · rw [h i hai (by unfold nw at hk; omega)]; simp
  · have : ¬ ((a : Int) ≤ i) := by omega
    simp [this]
theorem next_neg {l : List Bool} {a : Int} (h : a ≤ 0) : nextL l a = nextL l 0 :=
  first_congr (fun i _ => by rw [decide_eq_true (show a ≤ (i : Int) by omega), decide_eq_true (show (0 : Int) ≤ (i : Int) by omega)])
theorem next_toNat (l : List Bool) (a : Int) : nextL l a = nextL l (a.toNat : Int) :=
  first_congr (fun i _ => by congr 1; apply decide_eq_decide.2; omega)
theorem next_out {l : List Bool} {a : Int} (h : (l.length : Int) ≤ a) : nextL l a = l.length :=
  first_eq (by omega) (fun i hi => by rw [decide_eq_false (show ¬ a ≤ (i : Int) by omega)]; simp) (fun h => by omega)
/-- A result that may not be: the number, and whether. -/
def valN (n k : Nat) : Int := if k < n then k else 0
theorem valN_yes {n k : Nat} (h : k < n) : valN n k = k := if_pos h
theorem valN_no {n k : Nat} (h : ¬ k < n) : valN n k = 0 := if_neg h

/-- No one from m to below b. -/
def noneFrom (l : List Bool) (b m : Int) : Prop := ∀ i : Nat, m ≤ i → (i : Int) < b → at_ l i = false
theorem last_hit {l : List Bool} {b : Int} {k : Nat} (h : noneFrom l b (64 * k + 64)) (ht : 0 ≤ len (wordOf l k &&& runW 0 (b - 64 * k)) - 1) :
    lastL l b = 64 * k + (len (wordOf l k &&& runW 0 (b - 64 * k)) - 1) := by
  unfold len at *
  have h0 := last_bd (wordOf l k &&& runW 0 (b - 64 * k)).testBit 64
  have h1 := last_at (wordOf l k &&& runW 0 (b - 64 * k)).testBit 64 (by omega)
  have h2 := last_not (wordOf l k &&& runW 0 (b - 64 * k)).testBit 64
  generalize last (wordOf l k &&& runW 0 (b - 64 * k)).testBit 64 = t at *
  obtain ⟨t, rfl⟩ : ∃ n : Nat, t = n := ⟨t.toNat, by omega⟩
  rw [Int.toNat_natCast] at h1
  rw [tb_below l k t _ (by omega)] at h1
  simp only [Bool.and_eq_true, decide_eq_true_eq] at h1
  have hl := at_lt h1.1
  have e : lastL l b = ((64 * k + t : Nat) : Int) := by
    refine last_eq (by omega) (by omega) (fun i hi hi2 => ?_) (fun _ => ?_)
    · by_cases hib : (i : Int) < b
      · by_cases hf : 64 * k + 64 ≤ i
        · rw [h i (by omega) hib]; simp
        · have := h2 (i - 64 * k) (by omega) (by omega)
          rw [tb_below l k _ _ (by omega), show 64 * k + (i - 64 * k) = i by omega, decide_eq_true (show ((i - 64 * k : Nat) : Int) < b - 64 * k by omega), Bool.and_true] at this
          rw [this]; simp
      · simp [hib]
    · rw [Int.toNat_natCast, h1.1]; simp; omega
  rw [e]; omega
theorem last_miss {l : List Bool} {b : Int} {k : Nat} (h : noneFrom l b (64 * k + 64)) (ht : ¬ 0 ≤ len (wordOf l k &&& runW 0 (b - 64 * k)) - 1) : noneFrom l b (64 * k) := by
  intro i h1 h2
  by_cases hf : 64 * k + 64 ≤ i
  · exact h i (by omega) h2
  · unfold len at ht
    have := last_not (wordOf l k &&& runW 0 (b - 64 * k)).testBit 64 (i - 64 * k) (by omega) (by omega)
    rw [tb_below l k _ _ (by omega), show 64 * k + (i - 64 * k) = i by omega, decide_eq_true (show ((i - 64 * k : Nat) : Int) < b - 64 * k by omega), Bool.and_true] at this
    exact this
theorem last_none {l : List Bool} {b m : Int} (h : noneFrom l b m) (hm : m ≤ 0) : lastL l b = -1 := by
  refine last_eq (by omega) (by omega) (fun i _ _ => ?_) (fun h => by omega)
  by_cases hib : (i : Int) < b
  · rw [h i (by omega) hib]; simp
  · simp [hib]
theorem last_low {l : List Bool} {b : Int} (h : b ≤ 0) : lastL l b = -1 := last_none (m := 0) (fun i _ h2 => by omega) (by omega)
theorem last_min (l : List Bool) (b : Int) : lastL l b = lastL l (min b l.length) :=
  last_congr (fun i hi => by congr 1; apply decide_eq_decide.2; omega)
def valI (k : Int) : Int := if 0 ≤ k then k else 0

/-- The count of the words ahead. -/
theorem cnt_word (l : List Bool) (k : Nat) : cnt (at_ l) (64 * k) + pc (wordOf l k) = cnt (at_ l) (64 * k + 64) := by
  rw [cnt_add]
  congr 1
  exact cnt_congr (fun i hi => tb_word l k i hi)
theorem cnt_past (l : List Bool) {m : Nat} (h : l.length ≤ m) : cnt (at_ l) m = cnt (at_ l) l.length := by
  obtain ⟨k, rfl⟩ : ∃ k, m = l.length + k := ⟨m - l.length, by omega⟩
  rw [cnt_add, cnt_none (f := fun i => at_ l (l.length + i)) (fun i _ => at_out (by omega))]; omega
theorem pick_hit {l : List Bool} {k c q : Nat} (h : cnt (at_ l) (64 * k) + c = q) (hc : c < pc (wordOf l k)) :
    pickL l q = 64 * k + pickF (wordOf l k).testBit 64 c ∧ pickL l q < l.length := by
  obtain ⟨h1, h2, h3⟩ := pickF_lt hc
  generalize pickF (wordOf l k).testBit 64 c = t at *
  rw [tb_word l k t h1] at h2
  have hl := at_lt h2
  have e : pickL l q = 64 * k + t := by
    refine pickF_eq hl h2 ?_
    rw [cnt_add, ← h, ← h3]
    congr 1
    exact cnt_congr (fun i hi => (tb_word l k i (by omega)).symm)
  exact ⟨e, by omega⟩
theorem pick_miss {l : List Bool} {k c q : Nat} (h : cnt (at_ l) (64 * k) + c = q) (hc : ¬ c < pc (wordOf l k)) : cnt (at_ l) (64 * (k + 1)) + (c - pc (wordOf l k)) = q := by
  have := cnt_word l k
  rw [show 64 * (k + 1) = 64 * k + 64 by omega]; omega
theorem pickL_none {l : List Bool} {k c q : Nat} (h : cnt (at_ l) (64 * k) + c = q) (hk : nw l ≤ k) : pickL l q = l.length := by
  refine pickF_none ?_
  rw [cnt_past l (show l.length ≤ 64 * k by unfold nw at hk; omega)] at h
  omega
end Go.Proofs.YtbmidhlilafgeaaGreatDoor.Word
end

section
namespace Go.Proofs.YtbmidhlilafgeaaGreatDoor.Word

theorem cnt_ext {f : Nat → Bool} {m n : Nat} (h : m ≤ n) (hf : ∀ i, m ≤ i → i < n → f i = false) : cnt f n = cnt f m := by
  obtain ⟨k, rfl⟩ : ∃ k, n = m + k := ⟨n - m, by omega⟩
  rw [cnt_add, cnt_none (f := fun i => f (m + i)) (fun i hi => hf _ (by omega) (by omega))]; omega
/-- How many of a run g holds of. -/
def cntI (g : Nat → Bool) (a b : Int) (n : Nat) : Nat := cnt (fun i => decide (a ≤ i ∧ (i : Int) < b) && g i) n
theorem cntI_empty (g : Nat → Bool) {a b : Int} (n : Nat) (h : b ≤ a) : cntI g a b n = 0 :=
  cnt_none (fun i _ => by rw [decide_eq_false (by omega)]; rfl)
theorem cntI_congr {g h : Nat → Bool} {a b a' b' : Int} {n : Nat} (H : ∀ i : Nat, i < n → (decide (a ≤ i ∧ (i : Int) < b) && g i) = (decide (a' ≤ i ∧ (i : Int) < b') && h i)) : cntI g a b n = cntI h a' b' n := cnt_congr H
theorem cntI_step {g : Nat → Bool} {lo hi : Int} {k n y : Nat} (hk : (64 * k : Int) < hi) (hn : hi ≤ n)
    (hy : ∀ j, j < 64 → y.testBit j = (decide (lo ≤ (64 * k + j : Nat) ∧ ((64 * k + j : Nat) : Int) < hi) && g (64 * k + j))) :
    cntI g lo (min hi (64 * k)) n + pc y = cntI g lo (min hi (64 * (k + 1 : Nat))) n := by
  unfold cntI
  obtain ⟨r, rfl⟩ : ∃ r, n = 64 * k + r := ⟨n - 64 * k, by omega⟩
  rw [cnt_add, cnt_add _ (64 * k) r]
  have e1 : cnt (fun i => decide (lo ≤ (i : Nat) ∧ ((i : Nat) : Int) < min hi (64 * k)) && g i) (64 * k) = cnt (fun i => decide (lo ≤ (i : Nat) ∧ ((i : Nat) : Int) < min hi (64 * (k + 1 : Nat))) && g i) (64 * k) :=
    cnt_congr (fun i hi' => by congr 1; apply decide_eq_decide.2; omega)
  have e2 : cnt (fun i => decide (lo ≤ (64 * k + i : Nat) ∧ ((64 * k + i : Nat) : Int) < min hi (64 * k)) && g (64 * k + i)) r = 0 :=
    cnt_none (fun i _ => by rw [decide_eq_false (by omega)]; rfl)
  have e3 : cnt (fun i => decide (lo ≤ (64 * k + i : Nat) ∧ ((64 * k + i : Nat) : Int) < min hi (64 * (k + 1 : Nat))) && g (64 * k + i)) r = pc y := by
    unfold pc
    rcases Nat.lt_or_ge r 64 with h | h
    · rw [cnt_ext (f := y.testBit) (show r ≤ 64 by omega) (fun i h1 h2 => by rw [hy i h2, decide_eq_false (by omega)]; rfl)]
      exact cnt_congr (fun i hi' => by rw [hy i (by omega)]; congr 1; apply decide_eq_decide.2; omega)
    · rw [cnt_ext h (fun i h1 h2 => by rw [decide_eq_false (by omega)]; rfl)]
      exact cnt_congr (fun i hi' => by rw [hy i (by omega)]; congr 1; apply decide_eq_decide.2; omega)
  rw [e1, e2, e3]; omega

theorem countL_eq (l : List Bool) (a b : Int) : countL l a b = cntI (at_ l) a b l.length := cnt_congr (fun i _ => by unfold inRun; rw [Bool.and_comm])
theorem chgL_eq (l : List Bool) (a b : Int) (x : Bool) : chgL l a b x = cntI (fun i => at_ l i != x) a b l.length := rfl
theorem layL_empty {l : List Bool} {a b : Int} (x : Bool) (h : b ≤ a) : layL l a b x = l :=
  ext_at (layL_length ..) (fun i hi => by rw [layL_at _ _ _ _ _ (by rwa [layL_length] at hi), if_neg (by omega)])
theorem layL_clip (l : List Bool) (f t : Int) (x : Bool) : layL l (max f 0) (min t l.length) x = layL l f t x :=
  ext_at (by rw [layL_length, layL_length]) (fun i hi => by
    rw [layL_length] at hi
    rw [layL_at _ _ _ _ _ hi, layL_at _ _ _ _ _ hi]
    by_cases h : f ≤ i ∧ (i : Int) < t
    · rw [if_pos h, if_pos (by omega)]
    · rw [if_neg h, if_neg (by omega)])
theorem cntI_clip (g : Nat → Bool) (f t : Int) (n : Nat) : cntI g (max f 0) (min t n) n = cntI g f t n :=
  cntI_congr (fun i hi => by congr 1; apply decide_eq_decide.2; omega)
theorem tb_run (lo hi : Int) (k j : Nat) (hj : j < 64) : (runW (lo - 64 * k) (hi - 64 * k)).testBit j = decide (lo ≤ (64 * k + j : Nat) ∧ ((64 * k + j : Nat) : Int) < hi) := by
  rw [testBit_runW]; apply decide_eq_decide.2; omega
/-- What is laid once the words below k are done. -/
theorem lay_at (l : List Bool) (lo hi : Int) (x : Bool) (i : Nat) (hh : hi ≤ l.length) : at_ (layL l lo hi x) i = if lo ≤ i ∧ (i : Int) < hi then x else at_ l i := by
  by_cases h : i < l.length
  · exact layL_at _ _ _ _ _ h
  · rw [at_out (by rw [layL_length]; omega), if_neg (by omega), at_out (by omega)]
theorem word_now {l : List Bool} {lo hi : Int} {k : Nat} (hk : (64 * k : Int) < hi) (hh : hi ≤ l.length) (x : Bool) (j : Nat) (hj : j < 64) : (wordOf (layL l lo (min hi (64 * k)) x) k).testBit j = at_ l (64 * k + j) := by
  rw [tb_word _ _ _ hj, lay_at _ _ _ _ _ (by omega), if_neg (by omega)]
theorem word_next {l : List Bool} {lo hi : Int} {k : Nat} (hh : hi ≤ l.length) (x : Bool) (j : Nat) (hj : j < 64) : (wordOf (layL l lo (min hi (64 * (k + 1 : Nat))) x) k).testBit j = if lo ≤ (64 * k + j : Nat) ∧ ((64 * k + j : Nat) : Int) < hi then x else at_ l (64 * k + j) := by
  rw [tb_word _ _ _ hj, lay_at _ _ _ _ _ (by omega)]
  by_cases h : lo ≤ (64 * k + j : Nat) ∧ ((64 * k + j : Nat) : Int) < hi
  · rw [if_pos h, if_pos (by omega)]
  · rw [if_neg h, if_neg (by omega)]
theorem word_on {l : List Bool} {lo hi : Int} {k : Nat} (hk : (64 * k : Int) < hi) (hh : hi ≤ l.length) : wordOf (layL l lo (min hi (64 * k)) true) k ||| runW (lo - 64 * k) (hi - 64 * k) = wordOf (layL l lo (min hi (64 * (k + 1 : Nat))) true) k := by
  refine word_ext (or_lt (wordOf_lt _ _) (runW_lt _ _)) (wordOf_lt _ _) (fun j hj => ?_)
  rw [Nat.testBit_or, word_now hk hh true j hj, tb_run lo hi k j hj, word_next hh true j hj]
  by_cases h : lo ≤ (64 * k + j : Nat) ∧ ((64 * k + j : Nat) : Int) < hi
  · rw [if_pos h, decide_eq_true h]; simp
  · rw [if_neg h, decide_eq_false h]; simp
theorem word_off {l : List Bool} {lo hi : Int} {k : Nat} (hk : (64 * k : Int) < hi) (hh : hi ≤ l.length) : andN (wordOf (layL l lo (min hi (64 * k)) false) k) (runW (lo - 64 * k) (hi - 64 * k)) = wordOf (layL l lo (min hi (64 * (k + 1 : Nat))) false) k := by
  refine word_ext (andN_lt _ _ (wordOf_lt _ _)) (wordOf_lt _ _) (fun j hj => ?_)
  rw [testBit_andN _ _ _ hj, word_now hk hh false j hj, tb_run lo hi k j hj, word_next hh false j hj]
  by_cases h : lo ≤ (64 * k + j : Nat) ∧ ((64 * k + j : Nat) : Int) < hi
  · rw [if_pos h, decide_eq_true h]; simp
  · rw [if_neg h, decide_eq_false h]; simp
theorem word_other {l : List Bool} {lo hi : Int} {k : Nat} (hk : (64 * k : Int) < hi) (hh : hi ≤ l.length) (x : Bool) {i : Nat} (hi' : i ≠ k) : wordOf (layL l lo (min hi (64 * k)) x) i = wordOf (layL l lo (min hi (64 * (k + 1 : Nat))) x) i := by
  refine word_ext (wordOf_lt _ _) (wordOf_lt _ _) (fun j hj => ?_)
  rw [tb_word _ _ _ hj, tb_word _ _ _ hj, lay_at _ _ _ _ _ (by omega), lay_at _ _ _ _ _ (by omega)]
  by_cases h : lo ≤ (64 * i + j : Nat) ∧ ((64 * i + j : Nat) : Int) < min hi (64 * k)
  · rw [if_pos h, if_pos (by omega)]
  · rw [if_neg h, if_neg (by omega)]
theorem chg_on {l : List Bool} {lo hi : Int} {k : Nat} (hk : (64 * k : Int) < hi) (hh : hi ≤ l.length) : chgL l lo (min hi (64 * k)) true + pc (andN (runW (lo - 64 * k) (hi - 64 * k)) (wordOf (layL l lo (min hi (64 * k)) true) k)) = chgL l lo (min hi (64 * (k + 1 : Nat))) true :=
  cntI_step hk hh (fun j hj => by rw [testBit_andN _ _ _ hj, tb_run lo hi k j hj, word_now hk hh true j hj]; cases at_ l (64 * k + j) <;> simp)
theorem chg_off {l : List Bool} {lo hi : Int} {k : Nat} (hk : (64 * k : Int) < hi) (hh : hi ≤ l.length) : chgL l lo (min hi (64 * k)) false + pc (runW (lo - 64 * k) (hi - 64 * k) &&& wordOf (layL l lo (min hi (64 * k)) false) k) = chgL l lo (min hi (64 * (k + 1 : Nat))) false :=
  cntI_step hk hh (fun j hj => by rw [Nat.testBit_and, tb_run lo hi k j hj, word_now hk hh false j hj]; cases at_ l (64 * k + j) <;> simp)
theorem count_on {l : List Bool} {lo hi : Int} {k : Nat} (hk : (64 * k : Int) < hi) (hh : hi ≤ l.length) : cntI (at_ l) lo (min hi (64 * k)) l.length + pc (runW (lo - 64 * k) (hi - 64 * k) &&& wordOf l k) = cntI (at_ l) lo (min hi (64 * (k + 1 : Nat))) l.length :=
  cntI_step hk hh (fun j hj => by rw [Nat.testBit_and, tb_run lo hi k j hj, tb_word l k j hj])
theorem cntI_le (g : Nat → Bool) (a b : Int) (n : Nat) : cntI g a b n ≤ n := cnt_le _ _
theorem nw_layL (l : List Bool) (a b : Int) (x : Bool) : nw (layL l a b x) = nw l := by unfold nw; rw [layL_length]
end Go.Proofs.YtbmidhlilafgeaaGreatDoor.Word
end
