/- Primes: Fermat's little theorem, Pocklington's criterion. Plain numbers. -/
namespace Go.Proofs.Ytpgichfagodkpaa.Num
set_option linter.unusedVariables false

/-- A prime. -/
def Pr (p : Nat) : Prop := 1 < p ∧ ∀ m, m ∣ p → m = 1 ∨ m = p

theorem Pr.coprime {p a : Nat} (hp : Pr p) (h : ¬ p ∣ a) : Nat.Coprime p a := by
  rcases hp.2 _ (Nat.gcd_dvd_left p a) with h1 | h1
  · exact h1
  · exact absurd (h1 ▸ Nat.gcd_dvd_right p a) h
theorem Pr.dvd_mul {p a b : Nat} (hp : Pr p) (h : p ∣ a * b) : p ∣ a ∨ p ∣ b := by
  by_cases ha : p ∣ a
  · exact Or.inl ha
  · exact Or.inr ((hp.coprime ha).dvd_of_dvd_mul_left h)

/-- Pascal's numbers. -/
def ch : Nat → Nat → Nat
  | _, 0 => 1
  | 0, _ + 1 => 0
  | n + 1, k + 1 => ch n k + ch n (k + 1)
theorem ch_zero (n : Nat) : ch n 0 = 1 := by cases n <;> rfl
theorem ch_big : ∀ (n k : Nat), n < k → ch n k = 0
  | 0, 0, h => by omega
  | 0, k + 1, _ => rfl
  | n + 1, 0, h => by omega
  | n + 1, k + 1, h => by rw [ch, ch_big n k (by omega), ch_big n (k + 1) (by omega)]
theorem ch_self : ∀ n, ch n n = 1
  | 0 => rfl
  | n + 1 => by rw [ch, ch_self n, ch_big n (n + 1) (by omega)]
theorem ch_mul : ∀ n k, (k + 1) * ch (n + 1) (k + 1) = (n + 1) * ch n k
  | 0, 0 => rfl
  | 0, k + 1 => by rw [ch, ch, ch]; simp [ch_big 0 (k + 2) (by omega)]
  | n + 1, 0 => by
    have h := ch_mul n 0
    have e : ch (n + 1 + 1) (0 + 1) = ch (n + 1) 0 + ch (n + 1) (0 + 1) := rfl
    rw [e, ch_zero, Nat.zero_add, Nat.one_mul]
    rw [ch_zero, Nat.zero_add, Nat.one_mul] at h
    omega
  | n + 1, k + 1 => by
    have h1 := ch_mul n k
    have h2 := ch_mul n (k + 1)
    rw [ch, show (n + 1 + 1) * ch (n + 1) (k + 1) = (n + 1) * ch (n + 1) (k + 1) + ch (n + 1) (k + 1) from by rw [Nat.add_mul, Nat.one_mul]]
    rw [show ch (n + 1) (k + 1) = ch n k + ch n (k + 1) from rfl] at *
    rw [Nat.mul_add, h2, Nat.mul_add (n + 1), ← h1, Nat.add_mul (k + 1) 1]
    omega
/-- Sum of f 0 .. f (n - 1). -/
def sm (f : Nat → Nat) : Nat → Nat
  | 0 => 0
  | n + 1 => sm f n + f n
theorem sm_add (f g : Nat → Nat) : ∀ n, sm (fun i => f i + g i) n = sm f n + sm g n
  | 0 => rfl
  | n + 1 => by simp only [sm, sm_add f g n]; omega
theorem sm_mul (f : Nat → Nat) (c : Nat) : ∀ n, sm (fun i => c * f i) n = c * sm f n
  | 0 => rfl
  | n + 1 => by simp only [sm, sm_mul f c n, Nat.mul_add]
theorem sm_shift (f : Nat → Nat) : ∀ n, sm f (n + 1) = f 0 + sm (fun i => f (i + 1)) n
  | 0 => by simp [sm]
  | n + 1 => by rw [sm, sm_shift f n, sm]; omega
theorem sm_dvd (f : Nat → Nat) (p : Nat) : ∀ n, (∀ i, i < n → p ∣ f i) → p ∣ sm f n
  | 0, _ => ⟨0, rfl⟩
  | n + 1, h => Nat.dvd_add (sm_dvd f p n fun i hi => h i (by omega)) (h n (by omega))
theorem sm_congr (f g : Nat → Nat) : ∀ n, (∀ i, i < n → f i = g i) → sm f n = sm g n
  | 0, _ => rfl
  | n + 1, h => by rw [sm, sm, sm_congr f g n fun i hi => h i (by omega), h n (by omega)]
theorem binom (a : Nat) : ∀ n, (a + 1) ^ n = sm (fun k => ch n k * a ^ k) (n + 1)
  | 0 => rfl
  | n + 1 => by
    rw [Nat.pow_succ, binom a n, sm_shift (fun k => ch (n + 1) k * a ^ k), Nat.mul_add, Nat.mul_one]
    have h1 : sm (fun i => ch (n + 1) (i + 1) * a ^ (i + 1)) (n + 1) = sm (fun i => a * (ch n i * a ^ i)) (n + 1) + sm (fun i => ch n (i + 1) * a ^ (i + 1)) (n + 1) := by
      rw [← sm_add]
      apply sm_congr; intro i _
      rw [ch, Nat.add_mul, Nat.pow_succ, ← Nat.mul_assoc, Nat.mul_comm a]
    rw [h1, sm_mul, Nat.mul_comm a, ch_zero, Nat.pow_zero]
    have h2 := sm_shift (fun k => ch n k * a ^ k) (n + 1)
    rw [sm] at h2
    have h3 : ch n (n + 1) = 0 := ch_big _ _ (by omega)
    rw [h3, Nat.zero_mul, ch_zero, Nat.pow_zero] at h2
    omega
theorem Pr.ch_dvd {p : Nat} (hp : Pr p) (k : Nat) (h0 : 0 < k) (h : k < p) : p ∣ ch p k := by
  obtain ⟨n, rfl⟩ : ∃ n, p = n + 1 := ⟨p - 1, by have := hp.1; omega⟩
  obtain ⟨k, rfl⟩ : ∃ j, k = j + 1 := ⟨k - 1, by omega⟩
  have h1 := ch_mul n k
  rcases hp.dvd_mul (⟨_, h1⟩ : n + 1 ∣ (k + 1) * ch (n + 1) (k + 1)) with h2 | h2
  · exact absurd (Nat.le_of_dvd (by omega) h2) (by omega)
  · exact h2
/-- Fermat. -/
theorem fermat {p : Nat} (hp : Pr p) : ∀ a, a ^ p % p = a % p
  | 0 => by rw [Nat.zero_pow (by have := hp.1; omega)]
  | a + 1 => by
    have ih := fermat hp a
    have h1 := hp.1
    obtain ⟨n, rfl⟩ : ∃ n, p = n + 1 := ⟨p - 1, by omega⟩
    rw [binom, sm, sm_shift, ch_zero, Nat.pow_zero, ch_self, Nat.one_mul, Nat.one_mul]
    obtain ⟨c, hc⟩ := sm_dvd (fun i => ch (n + 1) (i + 1) * a ^ (i + 1)) (n + 1) n (fun i hi => Nat.dvd_trans (hp.ch_dvd (i + 1) (by omega) (by omega)) ⟨_, rfl⟩)
    rw [hc, show 1 + (n + 1) * c + a ^ (n + 1) = (a ^ (n + 1) + 1) + (n + 1) * c from by omega, Nat.add_mul_mod_self_left, Nat.add_mod, ih, ← Nat.add_mod]
theorem fermat1 {p : Nat} (hp : Pr p) (a : Nat) (ha : ¬ p ∣ a) : a ^ (p - 1) % p = 1 := by
  have h1 := hp.1
  have h := fermat hp a
  obtain ⟨n, rfl⟩ : ∃ n, p = n + 1 := ⟨p - 1, by omega⟩
  rw [Nat.add_sub_cancel]
  have hpos : 1 ≤ a ^ n := Nat.one_le_iff_ne_zero.2 (fun e => ha (by
    have : a = 0 := Nat.eq_zero_of_not_pos (fun hp => absurd e (Nat.ne_of_gt (Nat.pow_pos hp)))
    rw [this]; exact ⟨0, rfl⟩))
  have h2 : n + 1 ∣ a * (a ^ n - 1) := by
    rw [Nat.mul_sub, Nat.mul_one, Nat.mul_comm, ← Nat.pow_succ]
    exact Nat.dvd_of_mod_eq_zero (Nat.sub_mod_eq_zero_of_mod_eq h)
  rcases hp.dvd_mul h2 with h3 | h3
  · exact absurd h3 ha
  · obtain ⟨c, hc⟩ := h3
    rw [show a ^ n = 1 + (n + 1) * c from by omega, Nat.add_mul_mod_self_left, Nat.mod_eq_of_lt (by omega)]

/-- Every number above 1 has a prime divisor. -/
theorem prime_factor : ∀ n, 1 < n → ∃ r, Pr r ∧ r ∣ n := by
  intro n
  induction n using Nat.strongRecOn with
  | _ n ih =>
    intro hn
    by_cases h : ∀ m, m ∣ n → m = 1 ∨ m = n
    · exact ⟨n, ⟨hn, h⟩, Nat.dvd_refl _⟩
    · have : ∃ m, m ∣ n ∧ m ≠ 1 ∧ m ≠ n := Classical.byContradiction fun hc => h fun m hm => by
        by_cases h1 : m = 1
        · exact Or.inl h1
        · by_cases h2 : m = n
          · exact Or.inr h2
          · exact absurd ⟨m, hm, h1, h2⟩ hc
      obtain ⟨m, hm, h1, h2⟩ := this
      have hle := Nat.le_of_dvd (by omega) hm
      have hm0 : m ≠ 0 := by rintro rfl; have := Nat.eq_zero_of_zero_dvd hm; omega
      obtain ⟨r, hr, hd⟩ := ih m (by omega) (by omega)
      exact ⟨r, hr, Nat.dvd_trans hd hm⟩
theorem pow_gcd (b r : Nat) (hr : 1 < r) : ∀ x y, b ^ x % r = 1 → b ^ y % r = 1 → b ^ Nat.gcd x y % r = 1 := by
  intro x y
  induction x, y using Nat.gcd.induction with
  | H0 y => intro _ h; rw [Nat.gcd_zero_left]; exact h
  | H1 x y hx ih =>
    intro h1 h2
    rw [Nat.gcd_rec]
    refine ih ?_ h1
    have e := Nat.div_add_mod y x
    rw [← e, Nat.pow_add, Nat.pow_mul, Nat.mul_mod, Nat.pow_mod, h1, Nat.one_pow, Nat.mod_eq_of_lt hr, Nat.one_mul, Nat.mod_mod] at h2
    exact h2

/-- a ^ n modulo m, bit by bit. -/
def pm (m : Nat) : Nat → Nat → Nat → Nat
  | 0, _, _ => 1 % m
  | f + 1, a, n => if n = 0 then 1 % m else if n % 2 = 0 then pm m f (a * a % m) (n / 2) else a * pm m f (a * a % m) (n / 2) % m
theorem pm_eq (m : Nat) : ∀ f a n, n < 2 ^ f → pm m f a n = a ^ n % m
  | 0, a, n, h => by obtain rfl : n = 0 := by omega
                     rfl
  | f + 1, a, n, h => by
    rw [pm]
    have hn : n / 2 < 2 ^ f := by rw [Nat.pow_succ] at h; omega
    by_cases h0 : n = 0
    · rw [if_pos h0, h0, Nat.pow_zero]
    · rw [if_neg h0]
      have e := Nat.div_add_mod n 2
      have hsq : ((a * a % m) ^ (n / 2)) % m = a ^ (2 * (n / 2)) % m := by rw [← Nat.pow_mod, Nat.pow_mul, Nat.pow_two]
      by_cases h1 : n % 2 = 0
      · rw [if_pos h1, pm_eq m f _ _ hn, hsq, show 2 * (n / 2) = n from by omega]
      · rw [if_neg h1, pm_eq m f _ _ hn, hsq, Nat.mul_mod, Nat.mod_mod, ← Nat.mul_mod, Nat.mul_comm, ← Nat.pow_succ, show (2 * (n / 2)).succ = n from by omega]

/-- One step of Pocklington: each prime divisor of N is 1 modulo q. -/
theorem pock {N q a R : Nat} (hq : Pr q) (hN : N = q * R + 1) (h1 : a ^ (q * R) % N = 1 % N) (h2 : Nat.gcd (a ^ R % N + (N - 1)) N = 1) {r : Nat} (hr : Pr r) (hd : r ∣ N) : q ∣ r - 1 := by
  have hr1 := hr.1
  have hN1 : 1 < N := by
    have : r ≤ N := Nat.le_of_dvd (by omega) hd
    omega
  rw [Nat.mod_eq_of_lt hN1] at h1
  have e1 : (a ^ R) ^ q % r = 1 := by
    rw [← Nat.pow_mul, Nat.mul_comm R q, ← Nat.mod_mod_of_dvd _ hd, h1, Nat.mod_eq_of_lt hr1]
  have hnd : ¬ r ∣ a ^ R := by
    intro h
    have : (a ^ R) ^ q % r = 0 := by
      rw [Nat.pow_mod, Nat.mod_eq_zero_of_dvd h, Nat.zero_pow (by have := hq.1; omega), Nat.zero_mod]
    omega
  have e2 := fermat1 hr _ hnd
  rcases hq.2 _ (Nat.gcd_dvd_left q (r - 1)) with hg | hg
  · exfalso
    have e3 := pow_gcd (a ^ R) r hr1 q (r - 1) e1 e2
    rw [hg, Nat.pow_one] at e3
    have hdv : r ∣ a ^ R % N + (N - 1) := by
      apply Nat.dvd_of_mod_eq_zero
      rw [Nat.add_mod, Nat.mod_mod_of_dvd _ hd, e3]
      obtain ⟨c, hc⟩ := hd
      have hc0 : c ≠ 0 := by rintro rfl; omega
      obtain ⟨c, rfl⟩ : ∃ k, c = k + 1 := ⟨c - 1, by omega⟩
      rw [hc, show r * (c + 1) - 1 = r - 1 + r * c from by rw [Nat.mul_add]; omega, Nat.add_mul_mod_self_left, Nat.mod_eq_of_lt (by omega : r - 1 < r), show 1 + (r - 1) = r from by omega, Nat.mod_self]
    have := Nat.dvd_gcd hdv hd
    rw [h2] at this
    have := Nat.le_of_dvd (by omega) this
    omega
  · rw [← hg]; exact Nat.gcd_dvd_right q (r - 1)
/-- What is 1 modulo a number whose square is above it alone is prime. -/
theorem prime_of {N F : Nat} (hN : 1 < N) (hF : N < (F + 1) * (F + 1)) (h : ∀ r, Pr r → r ∣ N → F ∣ r - 1) : Pr N := by
  obtain ⟨r, hr, hd⟩ := prime_factor N hN
  have big : ∀ r, Pr r → r ∣ N → F + 1 ≤ r := fun r hr hd => by
    have h1 := hr.1
    have := Nat.le_of_dvd (by omega) (h r hr hd)
    omega
  obtain ⟨m, hm⟩ := hd
  have hm0 : m ≠ 0 := by rintro rfl; omega
  by_cases h1 : m = 1
  · rw [hm, h1, Nat.mul_one]; exact hr
  · exfalso
    obtain ⟨r', hr', hd'⟩ := prime_factor m (by omega)
    have b1 := big r hr ⟨m, hm⟩
    have b2 := big r' hr' (Nat.dvd_trans hd' ⟨r, by rw [hm, Nat.mul_comm]⟩)
    have b3 := Nat.le_of_dvd (by omega) hd'
    have := Nat.mul_le_mul b1 (Nat.le_trans b2 b3)
    omega
theorem two_dvd {a b n : Nat} (hc : Nat.Coprime a b) (ha : a ∣ n) (hb : b ∣ n) : a * b ∣ n := hc.mul_dvd_of_dvd_of_dvd ha hb
/-- The same, reckoned. -/
def ckP (N q a R : Nat) : Bool := N == q * R + 1 && decide (q * R < 2 ^ 256) && decide (R < 2 ^ 256) && pm N 256 a (q * R) == 1 % N && Nat.gcd (pm N 256 a R + (N - 1)) N == 1
theorem pock_pm {N q a R : Nat} (hq : Pr q) (h : ckP N q a R = true) {r : Nat} (hr : Pr r) (hd : r ∣ N) : q ∣ r - 1 := by
  simp only [ckP, Bool.and_eq_true, beq_iff_eq, decide_eq_true_eq] at h
  obtain ⟨⟨⟨⟨h1, h2⟩, h3⟩, h4⟩, h5⟩ := h
  rw [pm_eq _ _ _ _ h2] at h4
  rw [pm_eq _ _ _ _ h3] at h5
  exact pock hq h1 h4 h5 hr hd
/-- Trial division. -/
def td (n : Nat) : Nat → Nat → Bool
  | 0, _ => false
  | f + 1, m => if n < m * m then true else if n % m = 0 then false else td n f (m + 1)
theorem td_ok (n : Nat) : ∀ f m, td n f m = true → (∀ j, 2 ≤ j → j < m → ¬ j ∣ n) → ∀ j, 2 ≤ j → j * j ≤ n → ¬ j ∣ n
  | 0, m, h, _ => by simp [td] at h
  | f + 1, m, h, hs => by
    rw [td] at h
    intro j hj hjj
    by_cases h1 : n < m * m
    · refine hs j hj (Classical.byContradiction fun hc => ?_)
      have := Nat.mul_le_mul (Nat.le_of_not_lt hc) (Nat.le_of_not_lt hc)
      omega
    · rw [if_neg h1] at h
      by_cases h2 : n % m = 0
      · rw [if_pos h2] at h; cases h
      · rw [if_neg h2] at h
        refine td_ok n f (m + 1) h (fun i hi him hd => ?_) j hj hjj
        by_cases h3 : i = m
        · subst h3; exact h2 (Nat.mod_eq_zero_of_dvd hd)
        · exact hs i hi (by omega) hd
theorem pr_small {n : Nat} (h : (decide (1 < n) && td n 5000 2) = true) : Pr n := by
  simp only [Bool.and_eq_true, decide_eq_true_eq] at h
  obtain ⟨h1, h2⟩ := h
  have ht := td_ok n 5000 2 h2 (fun j a b => by omega)
  refine ⟨h1, fun m hm => ?_⟩
  obtain ⟨c, hc⟩ := hm
  by_cases e1 : m = 1
  · exact Or.inl e1
  · right
    by_cases e2 : c = 1
    · rw [hc, e2, Nat.mul_one]
    · exfalso
      have hm0 : m ≠ 0 := by rintro rfl; omega
      have hc0 : c ≠ 0 := by rintro rfl; omega
      by_cases hle : m ≤ c
      · exact ht m (by omega) (by rw [hc]; exact Nat.mul_le_mul_left m hle) ⟨c, hc⟩
      · exact ht c (by omega) (by rw [hc]; exact Nat.mul_le_mul_right c (by omega)) ⟨m, by rw [hc, Nat.mul_comm]⟩
end Go.Proofs.Ytpgichfagodkpaa.Num
