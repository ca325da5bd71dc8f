/- The document of sha2: a kind; word, rot, three, two. -/
import Derived.Test.YtbjapmhfnegmeaaRows
import Derived.Test.YtbjapmhfnegmeaaMix
import Derived.Test.YtbjapmhfnegmeaaRow
import Derived.Test.YtbjapmhfnegmeaaMem
import Derived.Test.YtbjapmhfnegmeaaShaM
import Derived.Laws.BitsAllLaws
import Derived.Deep.DeepCutAuto
namespace Go.Proofs.Ytbjapmhfnegmeaa.Big
set_option linter.unusedVariables false
open Go Go.RowKit
open Sha (T3 Sh rotr big sml)

/-- A kind as it lies in memory: bits of a word, shifts, two slices. -/
structure KV where
  W : Nat
  s : Sh
  K : Value
  H : Value
def iv (n : Nat) : Value := .int .i64 (n : Nat)
def tc (t : T3) : Array Value := #[iv t.a, iv t.b, iv t.c]
def kc (k : KV) : Array Value := #[iv k.W, iv k.s.a.a, iv k.s.a.b, iv k.s.a.c, iv k.s.b.a, iv k.s.b.b, iv k.s.b.c, iv k.s.c.a, iv k.s.c.b, iv k.s.c.c, iv k.s.d.a, iv k.s.d.b, iv k.s.d.c, k.K, k.H]
theorem kc_info : (Try.prog.info? 42).map (·.size) = some 15 := by kernel_rfl
theorem cellG {W w : World} {S : List Nat} (hw : GrS S W w) {b : Nat} {cs : Array Value} {t : TypeId} {fr : Nat × Nat} (hb : W.heap[b]? = some (.cells cs t fr)) (hn : b ∉ S) (i : Nat) : w.cell? ⟨b, i, none⟩ = cs[i]? :=
  cell_of_row _ _ _ _ _ _ (hw.at hn hb)
section
variable {W : World} {S : List Nat} {T : (World → Prop) → List Nat → Act → Prop} {L : List (Oper × Kd)} {F : World → Prop} {N : List Nat} {a : Act} {o : Oper}
theorem gm_loadK (x : Operand) (ho : o.op = .load 42 x) (b : Nat) (k : KV) (hb : W.heap[b]? = some (.cells (kc k) 42 (0, 0))) (hbS : b ∉ S) (hx : a.eval x = .pointer (some ⟨b, 0, none⟩))
    (h : wpG Try.prog W S T L F N (a.put o.dst (.agg (kc k)))) : wpG Try.prog W S T ((o, .flo) :: L) F N a :=
  gm_loadS x ho b (kc k) 42 (0, 0) _ hb hbS hx Try.underlying42 rfl kc_info h
end
theorem pw_le {W : Nat} (hW : W = 32 ∨ W = 64) : 2 ^ W ≤ 18446744073709551616 := by rcases hW with rfl | rfl <;> decide
theorem rot_b1 {W x n p : Nat} (hW : W = 32 ∨ W = 64) (hx : x < 2 ^ W) (hp : p = x / 2 ^ n) : p < 18446744073709551616 := by
  have := pw_le hW; have := Nat.div_le_self x (2 ^ n); omega
theorem rot_fin {W x n s : Nat} (hW : W = 32 ∨ W = 64) (hx : x < 2 ^ W) (hn : n + s = W) : (x / 2 ^ n ||| x * 2 ^ s % 18446744073709551616) % 2 ^ W = rotr W x n := by
  unfold rotr
  rw [Nat.or_mod_two_pow, Nat.mod_eq_of_lt (Nat.lt_of_le_of_lt (Nat.div_le_self _ _) hx), show W - n = s by omega, Nat.mod_mod_of_dvd _ (by rcases hW with rfl | rfl <;> decide)]
theorem rotr_lt {W x n : Nat} (hx : x < 2 ^ W) : rotr W x n < 2 ^ W := Nat.or_lt_two_pow (Nat.lt_of_le_of_lt (Nat.div_le_self _ _) hx) (Nat.mod_lt _ (Nat.two_pow_pos _))

set_option maxRecDepth 100000 in
set_option maxHeartbeats 2000000 in
theorem word_any (k : KV) (hW : k.W = 32 ∨ k.W = 64) (x : Nat) (hx : x < 18446744073709551616) (w : World) :
    Calls Try.prog 25 #[.agg (kc k), .int .u64 (x : Nat)] w fun e w' => e = .returned (.int .u64 (x % 2 ^ k.W : Nat)) ∧ Below w.heap.size w w' := by
  have hc : (w.alloc (.cells (kc k) 42)).cell? ⟨w.heap.size, 0, none⟩ = some (iv k.W) := (cell_of_row _ _ _ _ _ _ (heap_alloc_new w _)).trans rfl
  unfold iv at hc
  have hb : Below w.heap.size w (w.alloc (.cells (kc k) 42)) := (Below.refl _ _).alloc (Nat.le_refl _) _
  have HB := Box.mk hb; clear hb
  obtain ⟨z, hz⟩ : ∃ z, z = x % 2 ^ k.W := ⟨_, rfl⟩
  rw [← hz]
  rcases hW with hW | hW
  · obtain ⟨y, hy⟩ : ∃ y, y = x * 4294967296 % 18446744073709551616 := ⟨_, rfl⟩
    rw [hW] at hc hz
    have hw1 : IntKind.u64.wrap ((x : Int) * 4294967296) = (y : Int) := by rw [IntKind.wrap_u64]; omega
    have hw2 : (y : Int) / 4294967296 = (z : Int) := by omega
    clear hy hz hx
    go_enter Try.func25, Try.ntmps25
    go_wp2
    go_quiet (fail)
    go_wp2
    go_ret
    exact ⟨rfl, Upd.below HB.out ((Upd.refl [] _).drewN _) (by simp) HB.out.size⟩
  · rw [hW] at hc hz
    have hw1 : IntKind.u64.wrap (x : Int) = (z : Int) := by rw [IntKind.wrap_u64]; omega
    clear hz hx
    go_enter Try.func25, Try.ntmps25
    go_wp2
    go_quiet (fail)
    go_wp2
    go_ret
    exact ⟨rfl, Upd.below HB.out ((Upd.refl [] _).drewN _) (by simp) HB.out.size⟩
set_option maxRecDepth 100000 in
set_option maxHeartbeats 2000000 in
theorem rot_any (k : KV) (hW : k.W = 32 ∨ k.W = 64) (x n : Nat) (hx : x < 2 ^ k.W) (hn : n ≤ k.W) (w : World) :
    Calls Try.prog 39 #[.agg (kc k), .int .u64 (x : Nat), .int .i64 (n : Nat)] w fun e w' => e = .returned (.int .u64 (rotr k.W x n : Nat)) ∧ Below w.heap.size w w' := by
  obtain ⟨V, hV⟩ : ∃ V, V = rotr k.W x n := ⟨_, rfl⟩
  rw [← hV]
  obtain ⟨s, hs⟩ : ∃ s, n + s = k.W := ⟨k.W - n, by omega⟩
  have hws : IntKind.i64.wrap ((k.W : Int) - (n : Int)) = (s : Int) := by rw [IntKind.wrap_i64]; omega
  obtain ⟨p, hp⟩ : ∃ p, p = x / 2 ^ n := ⟨_, rfl⟩
  obtain ⟨q, hq⟩ : ∃ q, q = x * 2 ^ s % 18446744073709551616 := ⟨_, rfl⟩
  have hn64 : n ≤ 64 := by omega
  have hs64 : s ≤ 64 := by omega
  have hpI : (x : Int) / 2 ^ min n 64 = (p : Int) := by rw [hp, Nat.min_eq_left hn64]; simp
  have hqI : IntKind.u64.wrap ((x : Int) * 2 ^ min s 64) = (q : Int) := by rw [hq, IntKind.wrap_u64, Nat.min_eq_left hs64]; simp
  have hor : bits .or .u64 (p : Int) (q : Int) = ((p ||| q : Nat) : Int) := u64_or_nat p q (rot_b1 hW hx hp) (by omega)
  have hfin : (p ||| q) % 2 ^ k.W = V := by rw [hV, hp, hq]; exact rot_fin hW hx hs
  have hlt : p ||| q < 18446744073709551616 := Nat.or_lt_two_pow (n := 64) (rot_b1 hW hx hp) (by omega)
  obtain ⟨o, ho⟩ : ∃ o, o = p ||| q := ⟨_, rfl⟩
  rw [← ho] at hor hfin hlt
  have HV := Box.mk hfin; have HL := Box.mk hlt
  clear hp hq hx hV hn ho hfin hlt hs hn64 hs64
  go_enter Try.func39, Try.ntmps39
  go_upto_region 1 with (fail)
  obtain ⟨b, hb⟩ : ∃ b, b = w.heap.size := ⟨_, rfl⟩
  rw [← hb]
  have HB : Box ((w.alloc (.cells (kc k) 42)).drew.heap[b]? = some (.cells (kc k) 42 (0, 0))) := ⟨by rw [hb]; exact heap_alloc_new w _⟩
  have B0 : Box (Below w.heap.size w (w.alloc (.cells (kc k) 42)).drew) := ⟨((Below.refl _ _).alloc (Nat.le_refl _) _).drew⟩
  clear hb
  generalize w.alloc (.cells (kc k) 42) = w0 at HB B0 ⊢
  refine wp_region_mix 12 [.flo, .flo, .flo, .flo, .flo, .flo, .flo, .flo, .flo, .flo, .flo, .cha] (by kernel_rfl) (by kernel_rfl) rfl ?_
  simp only [List.take, List.zip, List.zipWith]
  try go_frame
  refine gm_loadK (.tmp 3) rfl b k HB.out (by simp) rfl ?_
  try go_frame
  refine gm_flo (.int .u64 (x : Nat)) (fun w1 hw1 => ?_) ?_
  case refine_1 =>
    go_simp
  try go_frame
  refine gm_flo (.int .i64 (n : Nat)) (fun w1 hw1 => ?_) ?_
  case refine_1 =>
    go_simp
  try go_frame
  refine gm_flo (.int .u64 (p : Nat)) (fun w1 hw1 => ?_) ?_
  case refine_1 =>
    go_simp
  try go_frame
  refine gm_flo (.int .u64 (x : Nat)) (fun w1 hw1 => ?_) ?_
  case refine_1 =>
    go_simp
  try go_frame
  refine gm_flo (.pointer (some ⟨b, 0, none⟩)) (fun w1 hw1 => ?_) ?_
  case refine_1 =>
    go_simp
  try go_frame
  refine gm_flo (.int .i64 (k.W : Nat)) (fun w1 hw1 => ?_) ?_
  case refine_1 =>
    have hc : w1.cell? ⟨b, 0, none⟩ = some (.int .i64 (k.W : Nat)) := cellG hw1 HB.out (by simp) 0
    go_simp
  try go_frame
  refine gm_flo (.int .i64 (n : Nat)) (fun w1 hw1 => ?_) ?_
  case refine_1 =>
    go_simp
  try go_frame
  refine gm_flo (.int .i64 (s : Nat)) (fun w1 hw1 => ?_) ?_
  case refine_1 =>
    go_simp
  try go_frame
  refine gm_flo (.int .u64 (q : Nat)) (fun w1 hw1 => ?_) ?_
  case refine_1 =>
    go_simp
  try go_frame
  refine gm_flo (.int .u64 (o : Nat)) (fun w1 hw1 => ?_) ?_
  case refine_1 =>
    go_simp
  try go_frame
  refine gm_call [.agg (kc k), .int .u64 (o : Nat)] (by kernel_rfl) rfl rfl Stb.tt (fun w1 hw1 hF1 => (word_any k hW o HL.out w1).mono ?_)
  rintro e w2 ⟨rfl, hw2⟩
  refine ⟨_, rfl, hw2, ?_⟩
  clear hw1 hF1 w1 hw2 w2
  try go_frame
  refine gm_nil ?_
  intro w9 hw9 hF9
  simp only [List.drop]
  try go_frame
  go_wp2
  go_ret
  exact ⟨by rw [HV.out]; rfl, B0.out.trans (hw9.below.mono B0.out.size)⟩
set_option maxRecDepth 100000 in
set_option maxHeartbeats 2000000 in
theorem three_any (k : KV) (hW : k.W = 32 ∨ k.W = 64) (x : Nat) (t : T3) (hx : x < 2 ^ k.W) (ha : t.a ≤ k.W) (hb : t.b ≤ k.W) (hc : t.c ≤ k.W) (w : World) :
    Calls Try.prog 27 #[.agg (kc k), .int .u64 (x : Nat), .agg (tc t)] w fun e w' => e = .returned (.int .u64 (big k.W x t : Nat)) ∧ Below w.heap.size w w' := by
  obtain ⟨V, hV⟩ : ∃ V, V = big k.W x t := ⟨_, rfl⟩
  rw [← hV]
  have hl := pw_le hW
  have C0 := Box.mk (rot_any k hW x t.a hx ha); have C1 := Box.mk (rot_any k hW x t.b hx hb); have C2 := Box.mk (rot_any k hW x t.c hx hc)
  have l0 := rotr_lt (n := t.a) hx; have l1 := rotr_lt (n := t.b) hx; have l2 : rotr k.W x t.c < 2 ^ k.W := rotr_lt hx
  unfold big at hV
  generalize rotr k.W x t.a = r0 at C0 l0 hV
  generalize rotr k.W x t.b = r1 at C1 l1 hV
  generalize rotr k.W x t.c = r2 at C2 l2 hV
  have hx1 := u64_xor_nat r0 r1 (by omega) (by omega)
  have lx : r0 ^^^ r1 < 18446744073709551616 := Nat.xor_lt_two_pow (n := 64) (by omega) (by omega)
  obtain ⟨y, hy⟩ : ∃ y, y = r0 ^^^ r1 := ⟨_, rfl⟩
  rw [← hy] at hx1 hV lx
  have hx2 := u64_xor_nat y r2 lx (by omega)
  rw [← hV] at hx2
  clear hy hV l0 l1 l2 lx hl hx ha hb hc
  go_enter Try.func27, Try.ntmps27
  go_upto_region 1 with (fail)
  have HB : Box (((w.alloc (.cells (kc k) 42)).alloc (.cells (tc t) 39)).drew.heap[w.heap.size]? = some (.cells (kc k) 42 (0, 0))) := ⟨(heap_alloc_old _ _ (by simp)).trans (heap_alloc_new w _)⟩
  have HC : Box (((w.alloc (.cells (kc k) 42)).alloc (.cells (tc t) 39)).drew.heap[w.heap.size + 1]? = some (.cells (tc t) 39 (0, 0))) := ⟨by
    have := heap_alloc_new (w.alloc (.cells (kc k) 42)) (.cells (tc t) 39)
    rw [show (w.alloc (.cells (kc k) 42)).heap.size = w.heap.size + 1 by simp] at this; exact this⟩
  have B0 : Box (Below w.heap.size w ((w.alloc (.cells (kc k) 42)).alloc (.cells (tc t) 39)).drew) := ⟨(((Below.refl _ _).alloc (Nat.le_refl _) _).alloc (by simp) _).drew⟩
  obtain ⟨c, hc⟩ : ∃ b, b = w.heap.size + 1 := ⟨_, rfl⟩
  rw [← hc] at HC ⊢
  obtain ⟨b, hb⟩ : ∃ b, b = w.heap.size := ⟨_, rfl⟩
  rw [← hb] at HB ⊢
  clear hb hc
  generalize (w.alloc (.cells (kc k) 42)).alloc (.cells (tc t) 39) = w0 at HB HC B0 ⊢
  refine wp_region_mix 17 [.flo, .flo, .flo, .flo, .cha, .flo, .flo, .flo, .flo, .cha, .flo, .flo, .flo, .flo, .flo, .cha, .flo] (by kernel_rfl) (by kernel_rfl) rfl ?_
  simp only [List.take, List.zip, List.zipWith]
  try go_frame
  refine gm_loadK (.tmp 3) rfl b k HB.out (by simp) rfl ?_
  try go_frame
  refine gm_flo (.int .u64 (x : Nat)) (fun w1 hw1 => ?_) ?_
  case refine_1 =>
    go_simp
  try go_frame
  refine gm_flo (.pointer (some ⟨c, 0, none⟩)) (fun w1 hw1 => ?_) ?_
  case refine_1 =>
    go_simp
  try go_frame
  refine gm_flo (.int .i64 (t.a : Nat)) (fun w1 hw1 => ?_) ?_
  case refine_1 =>
    have hc : w1.cell? ⟨c, 0, none⟩ = some (.int .i64 (t.a : Nat)) := cellG hw1 HC.out (by simp) 0
    go_simp
  try go_frame
  refine gm_call [.agg (kc k), .int .u64 (x : Nat), .int .i64 (t.a : Nat)] (by kernel_rfl) rfl rfl Stb.tt (fun w1 hw1 hF1 => (C0.out w1).mono ?_)
  rintro e w2 ⟨rfl, hw2⟩
  refine ⟨_, rfl, hw2, ?_⟩
  clear hw1 hF1 w1 hw2 w2
  try go_frame
  refine gm_loadK (.tmp 3) rfl b k HB.out (by simp) rfl ?_
  try go_frame
  refine gm_flo (.int .u64 (x : Nat)) (fun w1 hw1 => ?_) ?_
  case refine_1 =>
    go_simp
  try go_frame
  refine gm_flo (.pointer (some ⟨c, 1, none⟩)) (fun w1 hw1 => ?_) ?_
  case refine_1 =>
    go_simp
  try go_frame
  refine gm_flo (.int .i64 (t.b : Nat)) (fun w1 hw1 => ?_) ?_
  case refine_1 =>
    have hc : w1.cell? ⟨c, 1, none⟩ = some (.int .i64 (t.b : Nat)) := cellG hw1 HC.out (by simp) 1
    go_simp
  try go_frame
  refine gm_call [.agg (kc k), .int .u64 (x : Nat), .int .i64 (t.b : Nat)] (by kernel_rfl) rfl rfl Stb.tt (fun w1 hw1 hF1 => (C1.out w1).mono ?_)
  rintro e w2 ⟨rfl, hw2⟩
  refine ⟨_, rfl, hw2, ?_⟩
  clear hw1 hF1 w1 hw2 w2
  try go_frame
  refine gm_flo (.int .u64 (y : Nat)) (fun w1 hw1 => ?_) ?_
  case refine_1 =>
    go_simp
  try go_frame
  refine gm_loadK (.tmp 3) rfl b k HB.out (by simp) rfl ?_
  try go_frame
  refine gm_flo (.int .u64 (x : Nat)) (fun w1 hw1 => ?_) ?_
  case refine_1 =>
    go_simp
  try go_frame
  refine gm_flo (.pointer (some ⟨c, 2, none⟩)) (fun w1 hw1 => ?_) ?_
  case refine_1 =>
    go_simp
  try go_frame
  refine gm_flo (.int .i64 (t.c : Nat)) (fun w1 hw1 => ?_) ?_
  case refine_1 =>
    have hc : w1.cell? ⟨c, 2, none⟩ = some (.int .i64 (t.c : Nat)) := cellG hw1 HC.out (by simp) 2
    go_simp
  try go_frame
  refine gm_call [.agg (kc k), .int .u64 (x : Nat), .int .i64 (t.c : Nat)] (by kernel_rfl) rfl rfl Stb.tt (fun w1 hw1 hF1 => (C2.out w1).mono ?_)
  rintro e w2 ⟨rfl, hw2⟩
  refine ⟨_, rfl, hw2, ?_⟩
  clear hw1 hF1 w1 hw2 w2
  try go_frame
  refine gm_flo (.int .u64 (V : Nat)) (fun w1 hw1 => ?_) ?_
  case refine_1 =>
    go_simp
  try go_frame
  refine gm_nil ?_
  intro w9 hw9 hF9
  simp only [List.drop]
  try go_frame
  go_wp2
  go_ret
  exact ⟨rfl, B0.out.trans (hw9.below.mono B0.out.size)⟩
set_option maxRecDepth 100000 in
set_option maxHeartbeats 2000000 in
theorem two_any (k : KV) (hW : k.W = 32 ∨ k.W = 64) (x : Nat) (t : T3) (hx : x < 2 ^ k.W) (ha : t.a ≤ k.W) (hb : t.b ≤ k.W) (hc : t.c ≤ k.W) (w : World) :
    Calls Try.prog 26 #[.agg (kc k), .int .u64 (x : Nat), .agg (tc t)] w fun e w' => e = .returned (.int .u64 (sml k.W x t : Nat)) ∧ Below w.heap.size w w' := by
  obtain ⟨V, hV⟩ : ∃ V, V = sml k.W x t := ⟨_, rfl⟩
  rw [← hV]
  have hl := pw_le hW
  have C0 := Box.mk (rot_any k hW x t.a hx ha); have C1 := Box.mk (rot_any k hW x t.b hx hb); have hd : (x : Int) / 2 ^ min t.c 64 = ((x / 2 ^ t.c : Nat) : Int) := by rw [Nat.min_eq_left (by omega)]; simp
  have l0 := rotr_lt (n := t.a) hx; have l1 := rotr_lt (n := t.b) hx; have l2 : x / 2 ^ t.c < 2 ^ k.W := Nat.lt_of_le_of_lt (Nat.div_le_self _ _) hx
  unfold sml at hV
  generalize rotr k.W x t.a = r0 at C0 l0 hV
  generalize rotr k.W x t.b = r1 at C1 l1 hV
  generalize x / 2 ^ t.c = r2 at hd l2 hV
  have hx1 := u64_xor_nat r0 r1 (by omega) (by omega)
  have lx : r0 ^^^ r1 < 18446744073709551616 := Nat.xor_lt_two_pow (n := 64) (by omega) (by omega)
  obtain ⟨y, hy⟩ : ∃ y, y = r0 ^^^ r1 := ⟨_, rfl⟩
  rw [← hy] at hx1 hV lx
  have hx2 := u64_xor_nat y r2 lx (by omega)
  rw [← hV] at hx2
  clear hy hV l0 l1 l2 lx hl hx ha hb hc
  go_enter Try.func26, Try.ntmps26
  go_upto_region 1 with (fail)
  have HB : Box (((w.alloc (.cells (kc k) 42)).alloc (.cells (tc t) 39)).drew.heap[w.heap.size]? = some (.cells (kc k) 42 (0, 0))) := ⟨(heap_alloc_old _ _ (by simp)).trans (heap_alloc_new w _)⟩
  have HC : Box (((w.alloc (.cells (kc k) 42)).alloc (.cells (tc t) 39)).drew.heap[w.heap.size + 1]? = some (.cells (tc t) 39 (0, 0))) := ⟨by
    have := heap_alloc_new (w.alloc (.cells (kc k) 42)) (.cells (tc t) 39)
    rw [show (w.alloc (.cells (kc k) 42)).heap.size = w.heap.size + 1 by simp] at this; exact this⟩
  have B0 : Box (Below w.heap.size w ((w.alloc (.cells (kc k) 42)).alloc (.cells (tc t) 39)).drew) := ⟨(((Below.refl _ _).alloc (Nat.le_refl _) _).alloc (by simp) _).drew⟩
  obtain ⟨c, hc⟩ : ∃ b, b = w.heap.size + 1 := ⟨_, rfl⟩
  rw [← hc] at HC ⊢
  obtain ⟨b, hb⟩ : ∃ b, b = w.heap.size := ⟨_, rfl⟩
  rw [← hb] at HB ⊢
  clear hb hc
  generalize (w.alloc (.cells (kc k) 42)).alloc (.cells (tc t) 39) = w0 at HB HC B0 ⊢
  refine wp_region_mix 16 [.flo, .flo, .flo, .flo, .cha, .flo, .flo, .flo, .flo, .cha, .flo, .flo, .flo, .flo, .flo, .flo] (by kernel_rfl) (by kernel_rfl) rfl ?_
  simp only [List.take, List.zip, List.zipWith]
  try go_frame
  refine gm_loadK (.tmp 3) rfl b k HB.out (by simp) rfl ?_
  try go_frame
  refine gm_flo (.int .u64 (x : Nat)) (fun w1 hw1 => ?_) ?_
  case refine_1 =>
    go_simp
  try go_frame
  refine gm_flo (.pointer (some ⟨c, 0, none⟩)) (fun w1 hw1 => ?_) ?_
  case refine_1 =>
    go_simp
  try go_frame
  refine gm_flo (.int .i64 (t.a : Nat)) (fun w1 hw1 => ?_) ?_
  case refine_1 =>
    have hc : w1.cell? ⟨c, 0, none⟩ = some (.int .i64 (t.a : Nat)) := cellG hw1 HC.out (by simp) 0
    go_simp
  try go_frame
  refine gm_call [.agg (kc k), .int .u64 (x : Nat), .int .i64 (t.a : Nat)] (by kernel_rfl) rfl rfl Stb.tt (fun w1 hw1 hF1 => (C0.out w1).mono ?_)
  rintro e w2 ⟨rfl, hw2⟩
  refine ⟨_, rfl, hw2, ?_⟩
  clear hw1 hF1 w1 hw2 w2
  try go_frame
  refine gm_loadK (.tmp 3) rfl b k HB.out (by simp) rfl ?_
  try go_frame
  refine gm_flo (.int .u64 (x : Nat)) (fun w1 hw1 => ?_) ?_
  case refine_1 =>
    go_simp
  try go_frame
  refine gm_flo (.pointer (some ⟨c, 1, none⟩)) (fun w1 hw1 => ?_) ?_
  case refine_1 =>
    go_simp
  try go_frame
  refine gm_flo (.int .i64 (t.b : Nat)) (fun w1 hw1 => ?_) ?_
  case refine_1 =>
    have hc : w1.cell? ⟨c, 1, none⟩ = some (.int .i64 (t.b : Nat)) := cellG hw1 HC.out (by simp) 1
    go_simp
  try go_frame
  refine gm_call [.agg (kc k), .int .u64 (x : Nat), .int .i64 (t.b : Nat)] (by kernel_rfl) rfl rfl Stb.tt (fun w1 hw1 hF1 => (C1.out w1).mono ?_)
  rintro e w2 ⟨rfl, hw2⟩
  refine ⟨_, rfl, hw2, ?_⟩
  clear hw1 hF1 w1 hw2 w2
  try go_frame
  refine gm_flo (.int .u64 (y : Nat)) (fun w1 hw1 => ?_) ?_
  case refine_1 =>
    go_simp
  try go_frame
  refine gm_flo (.int .u64 (x : Nat)) (fun w1 hw1 => ?_) ?_
  case refine_1 =>
    go_simp
  try go_frame
  refine gm_flo (.pointer (some ⟨c, 2, none⟩)) (fun w1 hw1 => ?_) ?_
  case refine_1 =>
    go_simp
  try go_frame
  refine gm_flo (.int .i64 (t.c : Nat)) (fun w1 hw1 => ?_) ?_
  case refine_1 =>
    have hc : w1.cell? ⟨c, 2, none⟩ = some (.int .i64 (t.c : Nat)) := cellG hw1 HC.out (by simp) 2
    go_simp
  try go_frame
  refine gm_flo (.int .u64 (r2 : Nat)) (fun w1 hw1 => ?_) ?_
  case refine_1 =>
    go_simp
  try go_frame
  refine gm_flo (.int .u64 (V : Nat)) (fun w1 hw1 => ?_) ?_
  case refine_1 =>
    go_simp
  try go_frame
  refine gm_nil ?_
  intro w9 hw9 hF9
  simp only [List.drop]
  try go_frame
  go_wp2
  go_ret
  exact ⟨rfl, B0.out.trans (hw9.below.mono B0.out.size)⟩
end Go.Proofs.Ytbjapmhfnegmeaa.Big
