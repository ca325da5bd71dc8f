/- Points of the curve in memory: four elements in one block; what is loaded, stored and built of them. Primes: Fermat's little theorem, Pocklington's criterion. Plain numbers. 2^255 - 19 is prime. The field of the prime 2^255 - 19, plainly: inverses, squares, roots. -/
import Derived.Test.YtafhncpaoolljaaGreatM25
import Derived.Test.YtafhncpaoolljaaGreatM24
namespace Go.Proofs.YtafhncpaoolljaaGreat.Fe
set_option maxRecDepth 100000
set_option linter.unusedVariables false
open Go Go.RowKit
def pcell (x y z t : Nat → Nat) : Array Value := #[.int .u64 (x 0 : Nat), .int .u64 (x 1 : Nat), .int .u64 (x 2 : Nat), .int .u64 (x 3 : Nat), .int .u64 (x 4 : Nat), .int .u64 (y 0 : Nat), .int .u64 (y 1 : Nat), .int .u64 (y 2 : Nat), .int .u64 (y 3 : Nat), .int .u64 (y 4 : Nat),
 .int .u64 (z 0 : Nat), .int .u64 (z 1 : Nat), .int .u64 (z 2 : Nat), .int .u64 (z 3 : Nat), .int .u64 (z 4 : Nat), .int .u64 (t 0 : Nat), .int .u64 (t 1 : Nat), .int .u64 (t 2 : Nat), .int .u64 (t 3 : Nat), .int .u64 (t 4 : Nat)]
theorem pcell_one (x y z t : Nat → Nat) : (pcell x y z t).all (·.oneCell') = true := by simp [pcell, Value.oneCell']
theorem zeroP (w : World) : (zeroValue 58).run Tryz.prog w = .ok (.agg (pcell f0 f0 f0 f0)) w := by kernel_rfl
theorem run_loadVar_sub {P : Program} (w : World) (g off : Nat) (t ty : TypeId) (cs : Array Value) (l : List Value) (fr : Nat × Nat) (d : TypeDesc) (hg : w.heap[g]? = some (.cells cs t fr)) (hl : ∀ j v, l[j]? = some v → cs[off + j]? = some v)
   (hu : P.underlying ty = some d) (hd : (match d with | .struct _ | .array _ _ => true | _ => false) = true) (hi : (P.info? ty).map (·.size) = some l.length) :
   (loadVar ty ⟨g, off, none⟩).run P w = .ok (.agg l.toArray) w := by
 have h1 : (loadCells ⟨g, off, none⟩ l.length).run P w = .ok l.toArray w :=
   run_loadCells_list (P := P) w ⟨g, off, none⟩ l (fun j v hv => by
     have hadd : (⟨g, off, none⟩ : Addr).add j = ⟨g, off + j, none⟩ := by unfold Addr.add; split <;> simp_all
     rw [hadd, cell_of_row w g (off + j) cs t fr hg]
     exact hl j v hv)
 cases hq : P.info? ty with
 | none => simp [hq] at hi
 | some i =>
   have hs : i.size = l.length := by simpa [hq] using hi
   have hagg : (isAgg ty).run P w = .ok true w := by
     unfold isAgg
     rw [Sem.run_bind, run_underlying hu w]
     cases d <;> simp_all
   simp [loadVar, Sem.run_bind, hagg, sizeOf, typeInfo, hq, hs, h1]
theorem sub_x (x y z t : Nat → Nat) : ∀ (j : Nat) (v : Value), (ecell x).toList[j]? = some v → (pcell x y z t)[0 + j]? = some v
 | 0, _, h => h | 1, _, h => h | 2, _, h => h | 3, _, h => h | 4, _, h => h | n + 5, _, h => by simp [ecell] at h
theorem sub_y (x y z t : Nat → Nat) : ∀ (j : Nat) (v : Value), (ecell y).toList[j]? = some v → (pcell x y z t)[5 + j]? = some v
 | 0, _, h => h | 1, _, h => h | 2, _, h => h | 3, _, h => h | 4, _, h => h | n + 5, _, h => by simp [ecell] at h
theorem sub_z (x y z t : Nat → Nat) : ∀ (j : Nat) (v : Value), (ecell z).toList[j]? = some v → (pcell x y z t)[10 + j]? = some v
 | 0, _, h => h | 1, _, h => h | 2, _, h => h | 3, _, h => h | 4, _, h => h | n + 5, _, h => by simp [ecell] at h
theorem sub_t (x y z t : Nat → Nat) : ∀ (j : Nat) (v : Value), (ecell t).toList[j]? = some v → (pcell x y z t)[15 + j]? = some v
 | 0, _, h => h | 1, _, h => h | 2, _, h => h | 3, _, h => h | 4, _, h => h | n + 5, _, h => by simp [ecell] at h
theorem field0 (b : Nat) (w : World) : (Instr.fieldAt 58 (.pointer (some ⟨b, 0, none⟩)) 0).run Tryz.prog w = .ok (.pointer (some ⟨b, 0, none⟩)) w := by kernel_rfl
theorem field1 (b : Nat) (w : World) : (Instr.fieldAt 58 (.pointer (some ⟨b, 0, none⟩)) 1).run Tryz.prog w = .ok (.pointer (some ⟨b, 5, none⟩)) w := by kernel_rfl
theorem field2 (b : Nat) (w : World) : (Instr.fieldAt 58 (.pointer (some ⟨b, 0, none⟩)) 2).run Tryz.prog w = .ok (.pointer (some ⟨b, 10, none⟩)) w := by kernel_rfl
theorem field3 (b : Nat) (w : World) : (Instr.fieldAt 58 (.pointer (some ⟨b, 0, none⟩)) 3).run Tryz.prog w = .ok (.pointer (some ⟨b, 15, none⟩)) w := by kernel_rfl
theorem build4 (x y z t : Nat → Nat) (w : World) : (Instr.build 58 #[(0, .agg (ecell x)), (1, .agg (ecell y)), (2, .agg (ecell z)), (3, .agg (ecell t))]).run Tryz.prog w = .ok (.agg (pcell x y z t)) w := by kernel_rfl
theorem build2 (y z : Nat → Nat) (w : World) : (Instr.build 58 #[(1, .agg (ecell y)), (2, .agg (ecell z))]).run Tryz.prog w = .ok (.agg (pcell f0 y z f0)) w := by kernel_rfl
theorem build0 (w : World) : (Instr.build 58 #[]).run Tryz.prog w = .ok (.agg (pcell f0 f0 f0 f0)) w := by kernel_rfl
section
variable {W : World} {S : List Nat} {T : (World → Prop) → List Nat → Act → Prop} {L : List (Oper × Kd)} {F : World → Prop} {N : List Nat} {a : Act} {o : Oper}
theorem gm_loadP (p : Operand) (ho : o.op = .load 58 p) (b : Nat) (x y z t : Nat → Nat) (hb : W.heap[b]? = some (.cells (pcell x y z t) 58 (0, 0))) (hx : a.eval p = .pointer (some ⟨b, 0, none⟩))
   (h : wpG Tryz.prog W [] T L F N (a.put o.dst (.agg (pcell x y z t)))) : wpG Tryz.prog W [] T ((o, .flo) :: L) F N a :=
 gm_load p ho b (pcell x y z t) 58 (0, 0) _ hb hx Tryz.underlying58 rfl (by kernel_rfl) h
theorem gm_loadF (p : Operand) (ho : o.op = .load 56 p) (b off : Nat) (f : Nat → Nat) (cs : Array Value) (hb : W.heap[b]? = some (.cells cs 58 (0, 0))) (hs : ∀ (j : Nat) (v : Value), (ecell f).toList[j]? = some v → cs[off + j]? = some v) (hx : a.eval p = .pointer (some ⟨b, off, none⟩))
   (h : wpG Tryz.prog W [] T L F N (a.put o.dst (.agg (ecell f)))) : wpG Tryz.prog W [] T ((o, .flo) :: L) F N a :=
 ⟨_, fun w hw => .inl <| by
   unfold execOp
   simp only [ho, hx, Instr.loadAt, Instr.sureAddr, Sem.run_bind, Sem.run_pure, Result.andThen_ok, run_loadVar_sub w b off 58 56 cs (ecell f).toList (0, 0) _ (hw.at (fun h => by cases h) hb) hs Tryz.underlying56 rfl (by kernel_rfl)], h⟩
theorem gm_field (i off : Nat) (p : Operand) (ho : o.op = .fieldAddr 58 p i) (b : Nat) (hx : a.eval p = .pointer (some ⟨b, 0, none⟩)) (hr : ∀ w, (Instr.fieldAt 58 (.pointer (some ⟨b, 0, none⟩)) i).run Tryz.prog w = .ok (.pointer (some ⟨b, off, none⟩)) w)
   (h : wpG Tryz.prog W S T L F N (a.put o.dst (.pointer (some ⟨b, off, none⟩)))) : wpG Tryz.prog W S T ((o, .flo) :: L) F N a :=
 ⟨_, fun w _ => .inl <| by unfold execOp; simp only [ho, hx, Sem.run_bind, hr, Result.andThen_ok, Sem.run_pure], h⟩
theorem gm_build {ty : TypeId} {ps : List (Nat × Operand)} (vs : List (Nat × Value)) (ho : o.op = .build ty ps.toArray) (hv : ps.map (fun p => (p.1, a.eval p.2)) = vs) (v : Value) (hr : ∀ w, (Instr.build ty vs.toArray).run Tryz.prog w = .ok v w)
   (h : wpG Tryz.prog W S T L F N (a.put o.dst v)) : wpG Tryz.prog W S T ((o, .flo) :: L) F N a :=
 ⟨v, fun w _ => .inl <| by
   subst hv
   have := hr w
   rw [← List.map_toArray] at this
   unfold execOp
   simp only [ho, Sem.run_bind]
   rw [this]
   simp [Result.andThen_ok, Sem.run_pure], h⟩
end
theorem wpList_loadP {ops : Array Oper} {rest : List Oper} {o : Oper} {a : Act} {w : World} {Q : Exit → Act → World → Prop} (hgd : o.guard = none) (p : Operand) (ho : o.op = .load 58 p)
   (g : Nat) (cs : Array Value) (hsz : cs.size = 20) (hg : w.heap[g]? = some (.cells cs 58 (0, 0))) (hx : a.eval p = .pointer (some ⟨g, 0, none⟩))
   (h : wpList Tryz.prog ops Q rest (a.put o.dst (.agg cs)) w) : wpList Tryz.prog ops Q (o :: rest) a w :=
 wpList_load_row hgd 58 p ho g hx 58 cs (0, 0) _ hg Tryz.underlying58 rfl (by rw [hsz]; kernel_rfl) h
theorem wpList_storeP {ops : Array Oper} {rest : List Oper} {o : Oper} {a : Act} {w : World} {Q : Exit → Act → World → Prop} (hgd : o.guard = none) (p y : Operand) (ho : o.op = .store 58 p y)
   (g : Nat) (x' y' z' t' : Nat → Nat) (old : Array Value) (hsz : old.size = 20) (hg : w.heap[g]? = some (.cells old 58 (0, 0))) (hx : a.eval p = .pointer (some ⟨g, 0, none⟩)) (hy : a.eval y = .agg (pcell x' y' z' t'))
   (h : wpList Tryz.prog ops Q rest (a.put o.dst undef) (w.setRow g (pcell x' y' z' t'))) : wpList Tryz.prog ops Q (o :: rest) a w :=
 wpList_store_row hgd 58 p y ho g (pcell x' y' z' t') hx hy 58 old hg (by kernel_rfl) hsz (pcell_one _ _ _ _) h
end Go.Proofs.YtafhncpaoolljaaGreat.Fe
namespace Go.Proofs.YtafhncpaoolljaaGreat.Num
set_option maxRecDepth 100000
set_option linter.unusedVariables false
def Pr (p : Nat) : Prop := 1 < p ∧ ∀ m, m ∣ p → m = 1 ∨ m = p
theorem Pr.coprime {p a : Nat} (hp : Pr p) (h : ¬ p ∣ a) : Nat.Coprime p a := by
 rcases hp.2 _ (Nat.gcd_dvd_left p a) with h1 | h1
 · exact h1
 · exact absurd (h1 ▸ Nat.gcd_dvd_right p a) h
theorem Pr.dvd_mul {p a b : Nat} (hp : Pr p) (h : p ∣ a * b) : p ∣ a ∨ p ∣ b := by
 by_cases ha : p ∣ a
 · exact Or.inl ha
 · exact Or.inr ((hp.coprime ha).dvd_of_dvd_mul_left h)
def ch : Nat → Nat → Nat
 | _, 0 => 1
 | 0, _ + 1 => 0
 | n + 1, k + 1 => ch n k + ch n (k + 1)
theorem ch_zero (n : Nat) : ch n 0 = 1 := by cases n <;> rfl
theorem ch_big : ∀ (n k : Nat), n < k → ch n k = 0
 | 0, 0, h => by omega
 | 0, k + 1, _ => rfl
 | n + 1, 0, h => by omega
 | n + 1, k + 1, h => by rw [ch, ch_big n k (by omega), ch_big n (k + 1) (by omega)]
theorem ch_self : ∀ n, ch n n = 1
 | 0 => rfl
 | n + 1 => by rw [ch, ch_self n, ch_big n (n + 1) (by omega)]
theorem ch_mul : ∀ n k, (k + 1) * ch (n + 1) (k + 1) = (n + 1) * ch n k
 | 0, 0 => rfl
 | 0, k + 1 => by rw [ch, ch, ch]; simp [ch_big 0 (k + 2) (by omega)]
 | n + 1, 0 => by
   have h := ch_mul n 0
   have e : ch (n + 1 + 1) (0 + 1) = ch (n + 1) 0 + ch (n + 1) (0 + 1) := rfl
   rw [e, ch_zero, Nat.zero_add, Nat.one_mul]
   rw [ch_zero, Nat.zero_add, Nat.one_mul] at h
   omega
 | n + 1, k + 1 => by
   have h1 := ch_mul n k
   have h2 := ch_mul n (k + 1)
   rw [ch, show (n + 1 + 1) * ch (n + 1) (k + 1) = (n + 1) * ch (n + 1) (k + 1) + ch (n + 1) (k + 1) from by rw [Nat.add_mul, Nat.one_mul]]
   rw [show ch (n + 1) (k + 1) = ch n k + ch n (k + 1) from rfl] at *
   rw [Nat.mul_add, h2, Nat.mul_add (n + 1), ← h1, Nat.add_mul (k + 1) 1]
   omega
def sm (f : Nat → Nat) : Nat → Nat
 | 0 => 0
 | n + 1 => sm f n + f n
theorem sm_add (f g : Nat → Nat) : ∀ n, sm (fun i => f i + g i) n = sm f n + sm g n
 | 0 => rfl
 | n + 1 => by simp only [sm, sm_add f g n]; omega
theorem sm_mul (f : Nat → Nat) (c : Nat) : ∀ n, sm (fun i => c * f i) n = c * sm f n
 | 0 => rfl
 | n + 1 => by simp only [sm, sm_mul f c n, Nat.mul_add]
theorem sm_shift (f : Nat → Nat) : ∀ n, sm f (n + 1) = f 0 + sm (fun i => f (i + 1)) n
 | 0 => by simp [sm]
 | n + 1 => by rw [sm, sm_shift f n, sm]; omega
theorem sm_dvd (f : Nat → Nat) (p : Nat) : ∀ n, (∀ i, i < n → p ∣ f i) → p ∣ sm f n
 | 0, _ => ⟨0, rfl⟩
 | n + 1, h => Nat.dvd_add (sm_dvd f p n fun i hi => h i (by omega)) (h n (by omega))
theorem sm_congr (f g : Nat → Nat) : ∀ n, (∀ i, i < n → f i = g i) → sm f n = sm g n
 | 0, _ => rfl
 | n + 1, h => by rw [sm, sm, sm_congr f g n fun i hi => h i (by omega), h n (by omega)]
theorem binom (a : Nat) : ∀ n, (a + 1) ^ n = sm (fun k => ch n k * a ^ k) (n + 1)
 | 0 => rfl
 | n + 1 => by
   rw [Nat.pow_succ, binom a n, sm_shift (fun k => ch (n + 1) k * a ^ k), Nat.mul_add, Nat.mul_one]
   have h1 : sm (fun i => ch (n + 1) (i + 1) * a ^ (i + 1)) (n + 1) = sm (fun i => a * (ch n i * a ^ i)) (n + 1) + sm (fun i => ch n (i + 1) * a ^ (i + 1)) (n + 1) := by
     rw [← sm_add]
     apply sm_congr; intro i _
     rw [ch, Nat.add_mul, Nat.pow_succ, ← Nat.mul_assoc, Nat.mul_comm a]
   rw [h1, sm_mul, Nat.mul_comm a, ch_zero, Nat.pow_zero]
   have h2 := sm_shift (fun k => ch n k * a ^ k) (n + 1)
   rw [sm] at h2
   have h3 : ch n (n + 1) = 0 := ch_big _ _ (by omega)
   rw [h3, Nat.zero_mul, ch_zero, Nat.pow_zero] at h2
   omega
theorem Pr.ch_dvd {p : Nat} (hp : Pr p) (k : Nat) (h0 : 0 < k) (h : k < p) : p ∣ ch p k := by
 obtain ⟨n, rfl⟩ : ∃ n, p = n + 1 := ⟨p - 1, by have := hp.1; omega⟩
 obtain ⟨k, rfl⟩ : ∃ j, k = j + 1 := ⟨k - 1, by omega⟩
 have h1 := ch_mul n k
 rcases hp.dvd_mul (⟨_, h1⟩ : n + 1 ∣ (k + 1) * ch (n + 1) (k + 1)) with h2 | h2
 · exact absurd (Nat.le_of_dvd (by omega) h2) (by omega)
 · exact h2
theorem fermat {p : Nat} (hp : Pr p) : ∀ a, a ^ p % p = a % p
 | 0 => by rw [Nat.zero_pow (by have := hp.1; omega)]
 | a + 1 => by
   have ih := fermat hp a
   have h1 := hp.1
   obtain ⟨n, rfl⟩ : ∃ n, p = n + 1 := ⟨p - 1, by omega⟩
   rw [binom, sm, sm_shift, ch_zero, Nat.pow_zero, ch_self, Nat.one_mul, Nat.one_mul]
   obtain ⟨c, hc⟩ := sm_dvd (fun i => ch (n + 1) (i + 1) * a ^ (i + 1)) (n + 1) n (fun i hi => Nat.dvd_trans (hp.ch_dvd (i + 1) (by omega) (by omega)) ⟨_, rfl⟩)
   rw [hc, show 1 + (n + 1) * c + a ^ (n + 1) = (a ^ (n + 1) + 1) + (n + 1) * c from by omega, Nat.add_mul_mod_self_left, Nat.add_mod, ih, ← Nat.add_mod]
theorem fermat1 {p : Nat} (hp : Pr p) (a : Nat) (ha : ¬ p ∣ a) : a ^ (p - 1) % p = 1 := by
 have h1 := hp.1
 have h := fermat hp a
 obtain ⟨n, rfl⟩ : ∃ n, p = n + 1 := ⟨p - 1, by omega⟩
 rw [Nat.add_sub_cancel]
 have hpos : 1 ≤ a ^ n := Nat.one_le_iff_ne_zero.2 (fun e => ha (by
   have : a = 0 := Nat.eq_zero_of_not_pos (fun hp => absurd e (Nat.ne_of_gt (Nat.pow_pos hp)))
   rw [this]; exact ⟨0, rfl⟩))
 have h2 : n + 1 ∣ a * (a ^ n - 1) := by
   rw [Nat.mul_sub, Nat.mul_one, Nat.mul_comm, ← Nat.pow_succ]
   exact Nat.dvd_of_mod_eq_zero (Nat.sub_mod_eq_zero_of_mod_eq h)
 rcases hp.dvd_mul h2 with h3 | h3
 · exact absurd h3 ha
 · obtain ⟨c, hc⟩ := h3
   rw [show a ^ n = 1 + (n + 1) * c from by omega, Nat.add_mul_mod_self_left, Nat.mod_eq_of_lt (by omega)]
theorem prime_factor : ∀ n, 1 < n → ∃ r, Pr r ∧ r ∣ n := by
 intro n
 induction n using Nat.strongRecOn with
 | _ n ih =>
   intro hn
   by_cases h : ∀ m, m ∣ n → m = 1 ∨ m = n
   · exact ⟨n, ⟨hn, h⟩, Nat.dvd_refl _⟩
   · have : ∃ m, m ∣ n ∧ m ≠ 1 ∧ m ≠ n := Classical.byContradiction fun hc => h fun m hm => by
       by_cases h1 : m = 1
       · exact Or.inl h1
       · by_cases h2 : m = n
         · exact Or.inr h2
         · exact absurd ⟨m, hm, h1, h2⟩ hc
     obtain ⟨m, hm, h1, h2⟩ := this
     have hle := Nat.le_of_dvd (by omega) hm
     have hm0 : m ≠ 0 := by rintro rfl; have := Nat.eq_zero_of_zero_dvd hm; omega
     obtain ⟨r, hr, hd⟩ := ih m (by omega) (by omega)
     exact ⟨r, hr, Nat.dvd_trans hd hm⟩
theorem pow_gcd (b r : Nat) (hr : 1 < r) : ∀ x y, b ^ x % r = 1 → b ^ y % r = 1 → b ^ Nat.gcd x y % r = 1 := by
 intro x y
 induction x, y using Nat.gcd.induction with
 | H0 y => intro _ h; rw [Nat.gcd_zero_left]; exact h
 | H1 x y hx ih =>
   intro h1 h2
   rw [Nat.gcd_rec]
   refine ih ?_ h1
   have e := Nat.div_add_mod y x
   rw [← e, Nat.pow_add, Nat.pow_mul, Nat.mul_mod, Nat.pow_mod, h1, Nat.one_pow, Nat.mod_eq_of_lt hr, Nat.one_mul, Nat.mod_mod] at h2
   exact h2
def pm (m : Nat) : Nat → Nat → Nat → Nat
 | 0, _, _ => 1 % m
 | f + 1, a, n => if n = 0 then 1 % m else if n % 2 = 0 then pm m f (a * a % m) (n / 2) else a * pm m f (a * a % m) (n / 2) % m
theorem pm_eq (m : Nat) : ∀ f a n, n < 2 ^ f → pm m f a n = a ^ n % m
 | 0, a, n, h => by obtain rfl : n = 0 := by omega
                    rfl
 | f + 1, a, n, h => by
   rw [pm]
   have hn : n / 2 < 2 ^ f := by rw [Nat.pow_succ] at h; omega
   by_cases h0 : n = 0
   · rw [if_pos h0, h0, Nat.pow_zero]
   · rw [if_neg h0]
     have e := Nat.div_add_mod n 2
     have hsq : ((a * a % m) ^ (n / 2)) % m = a ^ (2 * (n / 2)) % m := by rw [← Nat.pow_mod, Nat.pow_mul, Nat.pow_two]
     by_cases h1 : n % 2 = 0
     · rw [if_pos h1, pm_eq m f _ _ hn, hsq, show 2 * (n / 2) = n from by omega]
     · rw [if_neg h1, pm_eq m f _ _ hn, hsq, Nat.mul_mod, Nat.mod_mod, ← Nat.mul_mod, Nat.mul_comm, ← Nat.pow_succ, show (2 * (n / 2)).succ = n from by omega]
theorem pock {N q a R : Nat} (hq : Pr q) (hN : N = q * R + 1) (h1 : a ^ (q * R) % N = 1 % N) (h2 : Nat.gcd (a ^ R % N + (N - 1)) N = 1) {r : Nat} (hr : Pr r) (hd : r ∣ N) : q ∣ r - 1 := by
 have hr1 := hr.1
 have hN1 : 1 < N := by
   have : r ≤ N := Nat.le_of_dvd (by omega) hd
   omega
 rw [Nat.mod_eq_of_lt hN1] at h1
 have e1 : (a ^ R) ^ q % r = 1 := by
   rw [← Nat.pow_mul, Nat.mul_comm R q, ← Nat.mod_mod_of_dvd _ hd, h1, Nat.mod_eq_of_lt hr1]
 have hnd : ¬ r ∣ a ^ R := by
   intro h
   have : (a ^ R) ^ q % r = 0 := by
     rw [Nat.pow_mod, Nat.mod_eq_zero_of_dvd h, Nat.zero_pow (by have := hq.1; omega), Nat.zero_mod]
   omega
 have e2 := fermat1 hr _ hnd
 rcases hq.2 _ (Nat.gcd_dvd_left q (r - 1)) with hg | hg
 · exfalso
   have e3 := pow_gcd (a ^ R) r hr1 q (r - 1) e1 e2
   rw [hg, Nat.pow_one] at e3
   have hdv : r ∣ a ^ R % N + (N - 1) := by
     apply Nat.dvd_of_mod_eq_zero
     rw [Nat.add_mod, Nat.mod_mod_of_dvd _ hd, e3]
     obtain ⟨c, hc⟩ := hd
     have hc0 : c ≠ 0 := by rintro rfl; omega
     obtain ⟨c, rfl⟩ : ∃ k, c = k + 1 := ⟨c - 1, by omega⟩
     rw [hc, show r * (c + 1) - 1 = r - 1 + r * c from by rw [Nat.mul_add]; omega, Nat.add_mul_mod_self_left, Nat.mod_eq_of_lt (by omega : r - 1 < r), show 1 + (r - 1) = r from by omega, Nat.mod_self]
   have := Nat.dvd_gcd hdv hd
   rw [h2] at this
   have := Nat.le_of_dvd (by omega) this
   omega
 · rw [← hg]; exact Nat.gcd_dvd_right q (r - 1)
theorem prime_of {N F : Nat} (hN : 1 < N) (hF : N < (F + 1) * (F + 1)) (h : ∀ r, Pr r → r ∣ N → F ∣ r - 1) : Pr N := by
 obtain ⟨r, hr, hd⟩ := prime_factor N hN
 have big : ∀ r, Pr r → r ∣ N → F + 1 ≤ r := fun r hr hd => by
   have h1 := hr.1
   have := Nat.le_of_dvd (by omega) (h r hr hd)
   omega
 obtain ⟨m, hm⟩ := hd
 have hm0 : m ≠ 0 := by rintro rfl; omega
 by_cases h1 : m = 1
 · rw [hm, h1, Nat.mul_one]; exact hr
 · exfalso
   obtain ⟨r', hr', hd'⟩ := prime_factor m (by omega)
   have b1 := big r hr ⟨m, hm⟩
   have b2 := big r' hr' (Nat.dvd_trans hd' ⟨r, by rw [hm, Nat.mul_comm]⟩)
   have b3 := Nat.le_of_dvd (by omega) hd'
   have := Nat.mul_le_mul b1 (Nat.le_trans b2 b3)
   omega
theorem two_dvd {a b n : Nat} (hc : Nat.Coprime a b) (ha : a ∣ n) (hb : b ∣ n) : a * b ∣ n := hc.mul_dvd_of_dvd_of_dvd ha hb
def ckP (N q a R : Nat) : Bool := N == q * R + 1 && decide (q * R < 2 ^ 256) && decide (R < 2 ^ 256) && pm N 256 a (q * R) == 1 % N && Nat.gcd (pm N 256 a R + (N - 1)) N == 1
theorem pock_pm {N q a R : Nat} (hq : Pr q) (h : ckP N q a R = true) {r : Nat} (hr : Pr r) (hd : r ∣ N) : q ∣ r - 1 := by
 simp only [ckP, Bool.and_eq_true, beq_iff_eq, decide_eq_true_eq] at h
 obtain ⟨⟨⟨⟨h1, h2⟩, h3⟩, h4⟩, h5⟩ := h
 rw [pm_eq _ _ _ _ h2] at h4
 rw [pm_eq _ _ _ _ h3] at h5
 exact pock hq h1 h4 h5 hr hd
def td (n : Nat) : Nat → Nat → Bool
 | 0, _ => false
 | f + 1, m => if n < m * m then true else if n % m = 0 then false else td n f (m + 1)
theorem td_ok (n : Nat) : ∀ f m, td n f m = true → (∀ j, 2 ≤ j → j < m → ¬ j ∣ n) → ∀ j, 2 ≤ j → j * j ≤ n → ¬ j ∣ n
 | 0, m, h, _ => by simp [td] at h
 | f + 1, m, h, hs => by
   rw [td] at h
   intro j hj hjj
   by_cases h1 : n < m * m
   · refine hs j hj (Classical.byContradiction fun hc => ?_)
     have := Nat.mul_le_mul (Nat.le_of_not_lt hc) (Nat.le_of_not_lt hc)
     omega
   · rw [if_neg h1] at h
     by_cases h2 : n % m = 0
     · rw [if_pos h2] at h; cases h
     · rw [if_neg h2] at h
       refine td_ok n f (m + 1) h (fun i hi him hd => ?_) j hj hjj
       by_cases h3 : i = m
       · subst h3; exact h2 (Nat.mod_eq_zero_of_dvd hd)
       · exact hs i hi (by omega) hd
theorem pr_small {n : Nat} (h : (decide (1 < n) && td n 5000 2) = true) : Pr n := by
 simp only [Bool.and_eq_true, decide_eq_true_eq] at h
 obtain ⟨h1, h2⟩ := h
 have ht := td_ok n 5000 2 h2 (fun j a b => by omega)
 refine ⟨h1, fun m hm => ?_⟩
 obtain ⟨c, hc⟩ := hm
 by_cases e1 : m = 1
 · exact Or.inl e1
 · right
   by_cases e2 : c = 1
   · rw [hc, e2, Nat.mul_one]
   · exfalso
     have hm0 : m ≠ 0 := by rintro rfl; omega
     have hc0 : c ≠ 0 := by rintro rfl; omega
     by_cases hle : m ≤ c
     · exact ht m (by omega) (by rw [hc]; exact Nat.mul_le_mul_left m hle) ⟨c, hc⟩
     · exact ht c (by omega) (by rw [hc]; exact Nat.mul_le_mul_right c (by omega)) ⟨m, by rw [hc, Nat.mul_comm]⟩
theorem pr_8574133 : Pr 8574133 := pr_small (by decide +kernel)
theorem pr_127 : Pr 127 := pr_small (by decide +kernel)
theorem pr_1919519569386763 : Pr 1919519569386763 :=
 prime_of (F := 8574133 * 127) (by decide +kernel) (by decide +kernel) fun r hr hd =>
   two_dvd (by decide +kernel) (pock_pm (a := 2) (R := 223873314) pr_8574133 (by decide +kernel) hr hd)
     (pock_pm (a := 2) (R := 15114327318006) pr_127 (by decide +kernel) hr hd)
theorem pr_569003 : Pr 569003 := pr_small (by decide +kernel)
theorem pr_2773320623 : Pr 2773320623 :=
 prime_of (F := 569003) (by decide +kernel) (by decide +kernel) fun r hr hd =>
   pock_pm (a := 2) (R := 4874) pr_569003 (by decide +kernel) hr hd
theorem pr_72106336199 : Pr 72106336199 :=
 prime_of (F := 2773320623) (by decide +kernel) (by decide +kernel) fun r hr hd =>
   pock_pm (a := 2) (R := 26) pr_2773320623 (by decide +kernel) hr hd
theorem pr_75445702479781427272750846543864801 : Pr 75445702479781427272750846543864801 :=
 prime_of (F := 1919519569386763 * 72106336199) (by decide +kernel) (by decide +kernel) fun r hr hd =>
   two_dvd (by decide +kernel) (pock_pm (a := 2) (R := 39304471641247389600) pr_1919519569386763 (by decide +kernel) hr hd)
     (pock_pm (a := 2) (R := 1046311689884858398375200) pr_72106336199 (by decide +kernel) hr hd)
theorem pr_430751 : Pr 430751 := pr_small (by decide +kernel)
theorem pr_4153 : Pr 4153 := pr_small (by decide +kernel)
theorem pr_31757755568855353 : Pr 31757755568855353 :=
 prime_of (F := 430751 * 4153) (by decide +kernel) (by decide +kernel) fun r hr hd =>
   two_dvd (by decide +kernel) (pock_pm (a := 2) (R := 73726481352) pr_430751 (by decide +kernel) hr hd)
     (pock_pm (a := 2) (R := 7646943310584) pr_4153 (by decide +kernel) hr hd)
theorem pr_74058212732561358302231226437062788676166966415465897661863160754340907 : Pr 74058212732561358302231226437062788676166966415465897661863160754340907 :=
 prime_of (F := 75445702479781427272750846543864801 * 31757755568855353) (by decide +kernel) (by decide +kernel) fun r hr hd =>
   two_dvd (by decide +kernel) (pock_pm (a := 2) (R := 981609426360740691344999861639072106) pr_75445702479781427272750846543864801 (by decide +kernel) hr hd)
     (pock_pm (a := 2) (R := 2331972502653487852620185443007392165117953542933313402) pr_31757755568855353 (by decide +kernel) hr hd)
theorem pr_57896044618658097711785492504343953926634992332820282019728792003956564819949 : Pr 57896044618658097711785492504343953926634992332820282019728792003956564819949 :=
 prime_of (F := 74058212732561358302231226437062788676166966415465897661863160754340907) (by decide +kernel) (by decide +kernel) fun r hr hd =>
   pock_pm (a := 2) (R := 781764) pr_74058212732561358302231226437062788676166966415465897661863160754340907 (by decide +kernel) hr hd
end Go.Proofs.YtafhncpaoolljaaGreat.Num
namespace Go.Proofs.YtafhncpaoolljaaGreat.Fe
set_option maxRecDepth 100000
set_option linter.unusedVariables false
open Go Go.RowKit Num
theorem fp_pr : Pr fp := by rw [fp_eq]; exact pr_57896044618658097711785492504343953926634992332820282019728792003956564819949
theorem not_dvd {a : Nat} (h0 : 0 < a) (h : a < fp) : ¬ fp ∣ a := fun hd => by have := Nat.le_of_dvd h0 hd; omega
theorem fermat_f {a : Nat} (h0 : 0 < a) (h : a < fp) : a ^ (fp - 1) % fp = 1 := fermat1 fp_pr a (not_dvd h0 h)
theorem two_lt_fp : 2 < fp := by rw [fp_eq]; decide
theorem one_mod : 1 % fp = 1 := Nat.mod_eq_of_lt (by have := two_lt_fp; omega)
theorem inv_mul {a : Nat} (h0 : 0 < a) (h : a < fp) : a * (a ^ (fp - 2) % fp) % fp = 1 := by
 rw [Nat.mul_mod_mod, ← Nat.pow_succ', show (fp - 2).succ = fp - 1 by have := two_lt_fp; omega]
 exact fermat_f h0 h
theorem mul_zero_f {a b : Nat} (ha : a < fp) (hb : b < fp) (h : a * b % fp = 0) : a = 0 ∨ b = 0 := by
 rcases fp_pr.dvd_mul (Nat.dvd_of_mod_eq_zero h) with h | h
 · exact .inl (Nat.eq_zero_of_dvd_of_lt h ha)
 · exact .inr (Nat.eq_zero_of_dvd_of_lt h hb)
theorem sq_eq {x y : Nat} (hx : x < fp) (hy : y < fp) (h : x * x % fp = y * y % fp) : x = y ∨ x = (fp - y) % fp := by
 rcases Nat.le_total y x with hle | hle
 · have hd : fp ∣ (x - y) * (x + y) := by
     have h1 : (x * x - y * y) % fp = 0 := Nat.sub_mod_eq_zero_of_mod_eq h
     have h2 : x * x - y * y = (x - y) * (x + y) := by rw [Nat.mul_self_sub_mul_self_eq, Nat.mul_comm]
     rw [h2] at h1; exact Nat.dvd_of_mod_eq_zero h1
   rcases fp_pr.dvd_mul hd with h | h
   · left; have := Nat.eq_zero_of_dvd_of_lt h (by omega); omega
   · obtain ⟨c, hc⟩ := h
     have hc2 : c = 0 ∨ c = 1 := by
       rcases Nat.lt_or_ge c 2 with h | h
       · omega
       · have := Nat.mul_le_mul (Nat.le_refl fp) h; omega
     rcases hc2 with rfl | rfl
     · left; omega
     · by_cases hy0 : y = 0
       · omega
       · right; rw [Nat.mod_eq_of_lt (by omega)]; omega
 · have hd : fp ∣ (y - x) * (y + x) := by
     have h1 : (y * y - x * x) % fp = 0 := Nat.sub_mod_eq_zero_of_mod_eq h.symm
     have h2 : y * y - x * x = (y - x) * (y + x) := by rw [Nat.mul_self_sub_mul_self_eq, Nat.mul_comm]
     rw [h2] at h1; exact Nat.dvd_of_mod_eq_zero h1
   rcases fp_pr.dvd_mul hd with h | h
   · left; have := Nat.eq_zero_of_dvd_of_lt h (by omega); omega
   · obtain ⟨c, hc⟩ := h
     have hc2 : c = 0 ∨ c = 1 := by
       rcases Nat.lt_or_ge c 2 with h | h
       · omega
       · have := Nat.mul_le_mul (Nat.le_refl fp) h; omega
     rcases hc2 with rfl | rfl
     · left; omega
     · by_cases hy0 : y = 0
       · omega
       · right; rw [Nat.mod_eq_of_lt (by omega)]; omega
theorem pw_comp {a n v : Nat} (hn : n < 2 ^ 256) (h : pm fp 256 a n = v) : a ^ n % fp = v := by rw [← pm_eq fp 256 a n hn]; exact h
@[irreducible] def hL : Nat := 28948022309329048855892746252171976963317496166410141009864396001978282409974
theorem hL_eq : hL = 28948022309329048855892746252171976963317496166410141009864396001978282409974 := by unfold hL; first | done | rfl
theorem hL_two : hL + hL = fp - 1 := by rw [hL_eq, fp_eq]
theorem hL_n1 : n1 + n1 = hL := by unfold n1; rw [hL_eq, fp_eq]
@[irreducible] def qL : Nat := 14474011154664524427946373126085988481658748083205070504932198000989141204987
theorem qL_eq : qL = 14474011154664524427946373126085988481658748083205070504932198000989141204987 := by unfold qL; first | done | rfl
theorem qL_two : 2 * qL = hL := by rw [hL_eq, qL_eq]
theorem qL_n5 : n5 + 1 + (n5 + 1) = qL + 1 := by unfold n5; rw [qL_eq, fp_eq]
theorem hL_lt : hL < 2 ^ 256 := by rw [hL_eq]; decide
theorem two_half : 2 ^ hL % fp = fp - 1 := pw_comp hL_lt (by rw [fp_eq, hL_eq]; decide +kernel)
theorem n1_two : 2 ^ n1 % fp * (2 ^ n1 % fp) % fp = fp - 1 := by
 rw [← Nat.mul_mod, ← Nat.pow_add, hL_n1]
 exact two_half
theorem half_cases {a : Nat} (h0 : 0 < a) (h : a < fp) : a ^ hL % fp = 1 ∨ a ^ hL % fp = fp - 1 := by
 have h1 : a ^ hL % fp * (a ^ hL % fp) % fp = 1 * 1 % fp := by
   rw [← Nat.mul_mod, ← Nat.pow_add, hL_two, fermat_f h0 h, Nat.mul_one, one_mod]
 rcases sq_eq (Nat.mod_lt _ fp_pos) (by have := two_lt_fp; omega) h1 with e | e
 · exact .inl e
 · right; rw [e]; exact Nat.mod_eq_of_lt (by have := two_lt_fp; omega)
theorem neg_mul {x : Nat} (hx : x < fp) : x * (fp - 1) % fp = (fp - x) % fp := by
 have h1 : (x * (fp - 1) + x) % fp = 0 := by
   rw [show x * (fp - 1) + x = x * fp from by rw [← Nat.mul_succ, show (fp - 1).succ = fp by have := two_lt_fp; omega]]
   exact Nat.mul_mod_left _ _
 have h2 := Nat.mod_lt (x * (fp - 1)) fp_pos
 rw [Nat.add_mod, Nat.mod_eq_of_lt hx] at h1
 generalize x * (fp - 1) % fp = y at h1 h2
 by_cases hx0 : x = 0
 · subst hx0; rw [Nat.add_zero, Nat.mod_eq_of_lt h2] at h1; rw [h1, Nat.sub_zero, Nat.mod_self]
 · rw [Nat.mod_eq_of_lt (show fp - x < fp by omega)]
   obtain ⟨c, hc⟩ := Nat.dvd_of_mod_eq_zero h1
   have hc2 : c = 1 := by
     rcases Nat.lt_or_ge c 2 with h | h
     · have : c ≠ 0 := fun e => by subst e; omega
       omega
     · have := Nat.mul_le_mul (Nat.le_refl fp) h; omega
   subst hc2; omega
theorem try0_eq (A : Nat) : tryR A 0 = A ^ (n5 + 1) % fp := by
 show A * (A ^ n5 % fp) % fp = _
 rw [Nat.mul_mod_mod, ← Nat.pow_succ']
theorem try1_eq (A : Nat) : tryR A 1 = tryR A 0 * (2 ^ n1 % fp) % fp := rfl
theorem try0_sq (A : Nat) : tryR A 0 * tryR A 0 % fp = A * (A ^ qL % fp) % fp := by
 rw [try0_eq, ← Nat.mul_mod, ← Nat.pow_add, qL_n5, Nat.pow_succ', Nat.mul_mod_mod]
theorem pow_quarter (a : Nat) : (a * a % fp) ^ qL % fp = a ^ hL % fp := by
 rw [← Nat.pow_mod, ← Nat.pow_two, ← Nat.pow_mul, qL_two]
theorem root_sq {a : Nat} (h : a < fp) : (rtN (a * a % fp)).2 = true := by
 have hs := try0_sq (a * a % fp)
 rw [pow_quarter] at hs
 have hxl : a * a % fp < fp := Nat.mod_lt _ fp_pos
 by_cases hit : tryR (a * a % fp) 0 * tryR (a * a % fp) 0 % fp = a * a % fp
 · rw [rtN_hit (k := 0) (by omega) hit (fun j hj => by omega)]
 · by_cases ha : a = 0
   · exfalso; apply hit; rw [hs, ha, Nat.zero_mul, Nat.zero_mod, Nat.zero_mul, Nat.zero_mod]
   · rcases half_cases (show 0 < a by omega) h with e | e
     · exact absurd (by rw [hs, e, Nat.mul_one, Nat.mod_mod]) hit
     · have h1 : tryR (a * a % fp) 1 * tryR (a * a % fp) 1 % fp = a * a % fp := by
         rw [try1_eq, ← Nat.mul_mod, Nat.mul_mul_mul_comm, Nat.mul_mod, n1_two, hs, e]
         generalize a * a % fp = x at hxl
         rw [neg_mul hxl]
         by_cases hx0 : x = 0
         · subst hx0; rw [Nat.sub_zero, Nat.mod_self, Nat.zero_mul, Nat.zero_mod]
         · rw [Nat.mod_eq_of_lt (show fp - x < fp by omega), neg_mul (by omega), Nat.mod_eq_of_lt (by omega)]; omega
       rw [rtN_hit (k := 1) (by omega) h1 (fun j hj => by
         have e : j = 0 := by omega
         subst e; exact hit)]
theorem evenR_lt {r : Nat} (h : r < fp) : evenR r < fp := by
 unfold evenR; split <;> omega
theorem rt_lt (A : Nat) : (rtN A).1 < fp := by
 unfold rtN
 split
 · exact evenR_lt (tryR_lt _ _)
 · split
   · exact evenR_lt (tryR_lt _ _)
   · exact fp_pos
theorem evenR_sq {r : Nat} (h : r < fp) : evenR r * evenR r % fp = r * r % fp := by
 unfold evenR
 split
 · rename_i hr
   have e : (fp - r) = r * (fp - 1) % fp := by rw [neg_mul h, Nat.mod_eq_of_lt (by omega)]
   rw [e, ← Nat.mul_mod, Nat.mul_mul_mul_comm, Nat.mul_mod, show (fp - 1) * (fp - 1) % fp = 1 from by
     rw [neg_mul (by have := two_lt_fp; omega), Nat.mod_eq_of_lt (by have := two_lt_fp; omega)]; have := two_lt_fp; omega, Nat.mul_one, Nat.mod_mod]
 · rfl
theorem root_back {A : Nat} (h : (rtN A).2 = true) : (rtN A).1 * (rtN A).1 % fp = A := by
 unfold rtN at h ⊢
 by_cases h0 : tryR A 0 * tryR A 0 % fp = A
 · rw [if_pos h0]
   show evenR (tryR A 0) * evenR (tryR A 0) % fp = A
   rw [evenR_sq (tryR_lt _ _)]; exact h0
 · rw [if_neg h0] at h ⊢
   by_cases h1 : tryR A 1 * tryR A 1 % fp = A
   · rw [if_pos h1]
     show evenR (tryR A 1) * evenR (tryR A 1) % fp = A
     rw [evenR_sq (tryR_lt _ _)]; exact h1
   · rw [if_neg h1] at h; cases h
theorem fp_odd : fp % 2 = 1 := by rw [fp_eq]
theorem evenR_even {r : Nat} (hr : r < fp) : evenR r % 2 = 0 := by
 have := fp_odd
 unfold evenR; split <;> omega
theorem rt_parity (A : Nat) : (rtN A).1 % 2 = 0 := by
 unfold rtN
 split
 · exact evenR_even (tryR_lt _ _)
 · split
   · exact evenR_even (tryR_lt _ _)
   · rfl
theorem no_root {r A k : Nat} (h1 : r * r % fp = A) (h0 : 0 < r) (hr : r < fp) (hk : 2 * k = fp - 1) : A ^ k % fp = 1 := by
 rw [← h1, ← Nat.pow_mod, ← Nat.pow_two, ← Nat.pow_mul, hk]; exact fermat_f h0 hr
end Go.Proofs.YtafhncpaoolljaaGreat.Fe
