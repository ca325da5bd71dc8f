/- SHA-2: a word turned; mixed. -/
import Derived.Test.YtafhncpaoolljaaGreatRows
import Derived.Test.YtafhncpaoolljaaGreatM02
import Derived.Test.YtafhncpaoolljaaGreatM05
import Derived.Laws.BitsAllLaws
namespace Go.Proofs.YtafhncpaoolljaaGreat
set_option maxRecDepth 100000
set_option linter.unusedVariables false
open Go Go.RowKit Sha
theorem rotr_lt (W x n : Nat) (hx : x < 2 ^ W) : rotr W x n < 2 ^ W :=
 Nat.or_lt_two_pow (Nat.lt_of_le_of_lt (Nat.div_le_self _ _) hx) (Nat.mod_lt _ (Nat.two_pow_pos _))
structure Sha.T3.Ok (W : Nat) (n : T3) : Prop where
 a : 1 ≤ n.a ∧ n.a < W
 b : 1 ≤ n.b ∧ n.b < W
 c : 1 ≤ n.c ∧ n.c < W
def t3v (n : T3) : Value := .agg #[.int .i64 n.a, .int .i64 n.b, .int .i64 n.c]
def t3o (n : T3) : Obj := .cells #[.int .i64 n.a, .int .i64 n.b, .int .i64 n.c] 139
theorem turn32_any (x n : Nat) (hx : x < 4294967296) (hn : 1 ≤ n ∧ n < 32) (w : World) :
   Calls Tryz.prog 145 #[.int .u32 x, .int .i64 n, .int .i64 32] w fun e w' => e = .returned (.int .u32 (rotr 32 x n : Nat)) ∧ ∃ k, w' = w.drewN k := by
 have h1 : IntKind.i64.wrap (32 - (n : Int)) = 32 - (n : Int) := by rw [IntKind.wrap_i64]; omega
 have h2 : (0 : Int) ≤ 32 - (n : Int) := by omega
 have h3 : (32 - (n : Int)).toNat = 32 - n := by omega
 go_enter Tryz.func145, Tryz.ntmps145
 go_wp2
 go_quiet (fail)
 go_wp2
 go_ret
 refine ⟨?_, nq, rfl⟩
 have e1 : (x : Int) / 2 ^ n = ((x / 2 ^ n : Nat) : Int) := by simp
 have e2 : (x : Int) * 2 ^ (32 - n) % 4294967296 = ((x * 2 ^ (32 - n) % 4294967296 : Nat) : Int) := by simp
 first
 | rw [e1, e2, u32_or_nat _ _ (Nat.lt_of_le_of_lt (Nat.div_le_self _ _) hx) (Nat.mod_lt _ (by decide))]
 | rw [e1, IntKind.wrap_u64, e2, u32_or_nat _ _ (Nat.lt_of_le_of_lt (Nat.div_le_self _ _) hx) (Nat.mod_lt _ (by decide))]
 rfl
theorem xor32 (a b : Nat) (ha : a < 4294967296) (hb : b < 4294967296) : bits .xor .u32 (a : Int) (b : Int) = ((a ^^^ b : Nat) : Int) := u32_xor_nat _ _ ha hb
set_option maxHeartbeats 1000000 in
theorem mix32_big (x : Nat) (n : T3) (hx : x < 4294967296) (hn : n.Ok 32) (w : World) :
   Calls Tryz.prog 137 #[.int .u32 x, t3v n, .int .i64 32, .bool true] w fun e w' => e = .returned (.int .u32 (big 32 x n : Nat)) ∧ ∃ k, w' = (w.alloc (t3o n)).drewN k := by
 have ha := hn.a; have hb := hn.b; have hc := hn.c
 have r1 := rotr_lt 32 x n.a hx; have r2 := rotr_lt 32 x n.b hx; have r3 := rotr_lt 32 x n.c hx
 have q1 := xor32 _ _ r1 r2
 have r4 := Nat.xor_lt_two_pow r1 r2
 have q2 := xor32 _ _ r4 r3
 clear r1 r2 r3 r4 hn
 have hx := Box.mk hx; have ha := Box.mk ha; have hb := Box.mk hb; have hc := Box.mk hc
 unfold t3v
 go_enter Tryz.func137, Tryz.ntmps137
 go_wp2_with fail
 go_quiet (first
   | (go_at_call 145; with_reducible exact Calls.quiet_of (turn32_any x n.a hx.out ha.out _))
   | (go_at_call 145; with_reducible exact Calls.quiet_of (turn32_any x n.b hx.out hb.out _))
   | (go_at_call 145; with_reducible exact Calls.quiet_of (turn32_any x n.c hx.out hc.out _)))
 go_wp2
 go_ret
 exact ⟨rfl, nq, rfl⟩
set_option maxHeartbeats 1000000 in
theorem mix32_sml (x : Nat) (n : T3) (hx : x < 4294967296) (hn : n.Ok 32) (w : World) :
   Calls Tryz.prog 137 #[.int .u32 x, t3v n, .int .i64 32, .bool false] w fun e w' => e = .returned (.int .u32 (sml 32 x n : Nat)) ∧ ∃ k, w' = (w.alloc (t3o n)).drewN k := by
 have ha := hn.a; have hb := hn.b; have hc := hn.c
 have r1 := rotr_lt 32 x n.a hx; have r2 := rotr_lt 32 x n.b hx
 have r3 : x / 2 ^ n.c < 2 ^ 32 := Nat.lt_of_le_of_lt (Nat.div_le_self _ _) hx
 have q1 := xor32 _ _ r1 r2
 have r4 := Nat.xor_lt_two_pow r1 r2
 have q2 := xor32 _ _ r4 r3
 have e1 : (x : Int) / 2 ^ n.c = ((x / 2 ^ n.c : Nat) : Int) := by simp
 rw [← e1] at q2
 clear r1 r2 r3 r4 hn e1
 have hx := Box.mk hx; have ha := Box.mk ha; have hb := Box.mk hb
 unfold t3v
 go_enter Tryz.func137, Tryz.ntmps137
 go_wp2_with fail
 go_quiet (first
   | (go_at_call 145; with_reducible exact Calls.quiet_of (turn32_any x n.a hx.out ha.out _))
   | (go_at_call 145; with_reducible exact Calls.quiet_of (turn32_any x n.b hx.out hb.out _)))
 go_wp2
 go_ret
 exact ⟨rfl, nq, rfl⟩
theorem turn64_any (x n : Nat) (hx : x < 18446744073709551616) (hn : 1 ≤ n ∧ n < 64) (w : World) :
   Calls Tryz.prog 146 #[.int .u64 x, .int .i64 n, .int .i64 64] w fun e w' => e = .returned (.int .u64 (rotr 64 x n : Nat)) ∧ ∃ k, w' = w.drewN k := by
 have h1 : IntKind.i64.wrap (64 - (n : Int)) = 64 - (n : Int) := by rw [IntKind.wrap_i64]; omega
 have h2 : (0 : Int) ≤ 64 - (n : Int) := by omega
 have h3 : (64 - (n : Int)).toNat = 64 - n := by omega
 go_enter Tryz.func146, Tryz.ntmps146
 go_wp2
 go_quiet (fail)
 go_wp2
 go_ret
 refine ⟨?_, nq, rfl⟩
 have e1 : (x : Int) / 2 ^ n = ((x / 2 ^ n : Nat) : Int) := by simp
 have e2 : (x : Int) * 2 ^ (64 - n) % 18446744073709551616 = ((x * 2 ^ (64 - n) % 18446744073709551616 : Nat) : Int) := by simp
 first
 | rw [e1, e2, u64_or_nat _ _ (Nat.lt_of_le_of_lt (Nat.div_le_self _ _) hx) (Nat.mod_lt _ (by decide))]
 | rw [e1, IntKind.wrap_u64, e2, u64_or_nat _ _ (Nat.lt_of_le_of_lt (Nat.div_le_self _ _) hx) (Nat.mod_lt _ (by decide))]
 rfl
theorem xor64 (a b : Nat) (ha : a < 18446744073709551616) (hb : b < 18446744073709551616) : bits .xor .u64 (a : Int) (b : Int) = ((a ^^^ b : Nat) : Int) := u64_xor_nat _ _ ha hb
set_option maxHeartbeats 1000000 in
theorem mix64_big (x : Nat) (n : T3) (hx : x < 18446744073709551616) (hn : n.Ok 64) (w : World) :
   Calls Tryz.prog 138 #[.int .u64 x, t3v n, .int .i64 64, .bool true] w fun e w' => e = .returned (.int .u64 (big 64 x n : Nat)) ∧ ∃ k, w' = (w.alloc (t3o n)).drewN k := by
 have ha := hn.a; have hb := hn.b; have hc := hn.c
 have r1 := rotr_lt 64 x n.a hx; have r2 := rotr_lt 64 x n.b hx; have r3 := rotr_lt 64 x n.c hx
 have q1 := xor64 _ _ r1 r2
 have r4 := Nat.xor_lt_two_pow r1 r2
 have q2 := xor64 _ _ r4 r3
 clear r1 r2 r3 r4 hn
 have hx := Box.mk hx; have ha := Box.mk ha; have hb := Box.mk hb; have hc := Box.mk hc
 unfold t3v
 go_enter Tryz.func138, Tryz.ntmps138
 go_wp2_with fail
 go_quiet (first
   | (go_at_call 146; with_reducible exact Calls.quiet_of (turn64_any x n.a hx.out ha.out _))
   | (go_at_call 146; with_reducible exact Calls.quiet_of (turn64_any x n.b hx.out hb.out _))
   | (go_at_call 146; with_reducible exact Calls.quiet_of (turn64_any x n.c hx.out hc.out _)))
 go_wp2
 go_ret
 exact ⟨rfl, nq, rfl⟩
set_option maxHeartbeats 1000000 in
theorem mix64_sml (x : Nat) (n : T3) (hx : x < 18446744073709551616) (hn : n.Ok 64) (w : World) :
   Calls Tryz.prog 138 #[.int .u64 x, t3v n, .int .i64 64, .bool false] w fun e w' => e = .returned (.int .u64 (sml 64 x n : Nat)) ∧ ∃ k, w' = (w.alloc (t3o n)).drewN k := by
 have ha := hn.a; have hb := hn.b; have hc := hn.c
 have r1 := rotr_lt 64 x n.a hx; have r2 := rotr_lt 64 x n.b hx
 have r3 : x / 2 ^ n.c < 2 ^ 64 := Nat.lt_of_le_of_lt (Nat.div_le_self _ _) hx
 have q1 := xor64 _ _ r1 r2
 have r4 := Nat.xor_lt_two_pow r1 r2
 have q2 := xor64 _ _ r4 r3
 have e1 : (x : Int) / 2 ^ n.c = ((x / 2 ^ n.c : Nat) : Int) := by simp
 rw [← e1] at q2
 clear r1 r2 r3 r4 hn e1
 have hx := Box.mk hx; have ha := Box.mk ha; have hb := Box.mk hb
 unfold t3v
 go_enter Tryz.func138, Tryz.ntmps138
 go_wp2_with fail
 go_quiet (first
   | (go_at_call 146; with_reducible exact Calls.quiet_of (turn64_any x n.a hx.out ha.out _))
   | (go_at_call 146; with_reducible exact Calls.quiet_of (turn64_any x n.b hx.out hb.out _)))
 go_wp2
 go_ret
 exact ⟨rfl, nq, rfl⟩
end Go.Proofs.YtafhncpaoolljaaGreat
