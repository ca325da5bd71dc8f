/- SHA-2: constants, what words lie in memory; the step of a block. -/
import Derived.Test.YtafhncpaoolljaaGreatM06
import Derived.Deep.RegionHeld3
import Derived.Deep.RegionLaw
import Derived.OwnWalk
import Derived.RowKit3
import Derived.Test.YtafhncpaoolljaaGreatM02
namespace Go.Proofs.YtafhncpaoolljaaGreat
set_option maxRecDepth 100000
set_option linter.unusedVariables false
open Go Go.RowKit Sha
def shl (s : Sh) : Array Value := #[.int .i64 s.a.a, .int .i64 s.a.b, .int .i64 s.a.c, .int .i64 s.b.a, .int .i64 s.b.b, .int .i64 s.b.c, .int .i64 s.c.a, .int .i64 s.c.b, .int .i64 s.c.c, .int .i64 s.d.a, .int .i64 s.d.b, .int .i64 s.d.c]
theorem s256_any (w : World) : Calls Tryz.prog 119 #[] w fun e w' => e = .returned (.agg (shl sh256)) ∧ w' = w.alloc (.cells (shl sh256) 151) := by
 go_enter Tryz.func119, Tryz.ntmps119
 go_wp2
 go_returns
 exact ⟨rfl, rfl⟩
theorem s512_any (w : World) : Calls Tryz.prog 122 #[] w fun e w' => e = .returned (.agg (shl sh512)) ∧ w' = w.alloc (.cells (shl sh512) 151) := by
 go_enter Tryz.func122, Tryz.ntmps122
 go_wp2
 go_returns
 exact ⟨rfl, rfl⟩
def u32v (n : Nat) : Value := .int .u32 n
def u64v (n : Nat) : Value := .int .u64 n
structure Sha.Sh.Ok (W : Nat) (s : Sh) : Prop where
 a : s.a.Ok W
 b : s.b.Ok W
 c : s.c.Ok W
 d : s.d.Ok W
theorem sh256_ok : sh256.Ok 32 := ⟨⟨by decide, by decide, by decide⟩, ⟨by decide, by decide, by decide⟩, ⟨by decide, by decide, by decide⟩, ⟨by decide, by decide, by decide⟩⟩
theorem sh512_ok : sh512.Ok 64 := ⟨⟨by decide, by decide, by decide⟩, ⟨by decide, by decide, by decide⟩, ⟨by decide, by decide, by decide⟩, ⟨by decide, by decide, by decide⟩⟩
def hcells (kind : Int) (A B : V8) (rest : ByteArray) (size : Int) : Array Value :=
 #[.int .i64 kind, u32v A.a, u32v A.b, u32v A.c, u32v A.d, u32v A.e, u32v A.f, u32v A.g, u32v A.h, u64v B.a, u64v B.b, u64v B.c, u64v B.d, u64v B.e, u64v B.f, u64v B.g, u64v B.h, .string rest, .int .i64 size]
structure Sha.V8.Ok (W : Nat) (v : V8) : Prop where
 a : v.a < 2 ^ W
 b : v.b < 2 ^ W
 c : v.c < 2 ^ W
 d : v.d < 2 ^ W
 e : v.e < 2 ^ W
 f : v.f < 2 ^ W
 g : v.g < 2 ^ W
 h : v.h < 2 ^ W
theorem sched_succ (W : Nat) (s : Sh) : ∀ k l, sched W s (k + 1) l = sched W s k l ++ [nextW W s (sched W s k l)]
 | 0, l => rfl
 | k + 1, l => by rw [sched, sched_succ W s k (l ++ [nextW W s l])]; rfl
theorem sched_len (W : Nat) (s : Sh) : ∀ k l, (sched W s k l).length = l.length + k
 | 0, l => rfl
 | k + 1, l => by rw [sched_succ, List.length_append, sched_len W s k l]; simp; omega
theorem sched_lt (W : Nat) (s : Sh) : ∀ k l, (∀ x ∈ l, x < 2 ^ W) → ∀ x ∈ sched W s k l, x < 2 ^ W
 | 0, l, h => h
 | k + 1, l, h => by
   rw [sched_succ]
   intro x hx
   rcases List.mem_append.1 hx with hx | hx
   · exact sched_lt W s k l h x hx
   · rw [List.mem_singleton] at hx; subst hx; exact Nat.mod_lt _ (Nat.two_pow_pos _)
theorem rnds_snoc (W : Nat) (s : Sh) : ∀ (ks xs : List Nat) (v : V8) (k x : Nat), ks.length = xs.length → rnds W s (ks ++ [k]) (xs ++ [x]) v = round W s (rnds W s ks xs v) k x
 | [], [], v, k, x, _ => rfl
 | a :: ks, b :: xs, v, k, x, h => by
   have := rnds_snoc W s ks xs (round W s v a b) k x (by simpa using h)
   simpa [rnds] using this
theorem take_snoc' (l : List Nat) (k : Nat) (h : k < l.length) : l.take (k + 1) = l.take k ++ [l.getD k 0] := by
 rw [List.take_succ_eq_append_getElem h, List.getD_eq_getElem?_getD, List.getElem?_eq_getElem h]; rfl
theorem rnds_step (W : Nat) (s : Sh) (ks xs : List Nat) (v : V8) (k : Nat) (h1 : k < ks.length) (h2 : k < xs.length) :
   rnds W s (ks.take (k + 1)) (xs.take (k + 1)) v = round W s (rnds W s (ks.take k) (xs.take k) v) (ks.getD k 0) (xs.getD k 0) := by
 rw [take_snoc' _ _ h1, take_snoc' _ _ h2, rnds_snoc _ _ _ _ _ _ _ (by simp; omega)]
def v8c32 (v : V8) : Array Value := #[u32v v.a, u32v v.b, u32v v.c, u32v v.d, u32v v.e, u32v v.f, u32v v.g, u32v v.h]
def v8c64 (v : V8) : Array Value := #[u64v v.a, u64v v.b, u64v v.c, u64v v.d, u64v v.e, u64v v.f, u64v v.g, u64v v.h]
def hc32 (kind : Int) (A O : V8) (rest : ByteArray) (size : Int) : Array Value := hcells kind A O rest size
def hc64 (kind : Int) (A O : V8) (rest : ByteArray) (size : Int) : Array Value := hcells kind O A rest size
def mixV (W k : Nat) (A v : V8) : V8 :=
 ⟨if 0 < k then (A.a + v.a) % 2 ^ W else A.a, if 1 < k then (A.b + v.b) % 2 ^ W else A.b, if 2 < k then (A.c + v.c) % 2 ^ W else A.c, if 3 < k then (A.d + v.d) % 2 ^ W else A.d,
   if 4 < k then (A.e + v.e) % 2 ^ W else A.e, if 5 < k then (A.f + v.f) % 2 ^ W else A.f, if 6 < k then (A.g + v.g) % 2 ^ W else A.g, if 7 < k then (A.h + v.h) % 2 ^ W else A.h⟩
theorem mixV_all (W : Nat) (A v : V8) : mixV W 8 A v = plus W A v := rfl
theorem list_lt {W : Nat} {v : V8} (h : v.Ok W) (k : Nat) : v.list.getD k 0 < 2 ^ W := by
 match k with
 | 0 => exact h.a
 | 1 => exact h.b
 | 2 => exact h.c
 | 3 => exact h.d
 | 4 => exact h.e
 | 5 => exact h.f
 | 6 => exact h.g
 | 7 => exact h.h
 | k + 8 => exact Nat.two_pow_pos _
theorem not_xor (W a : Nat) (h : a < 2 ^ W) : (2 ^ W - 1) ^^^ a = 2 ^ W - 1 - a := by
 apply Nat.eq_of_testBit_eq
 intro i
 rw [Nat.testBit_xor, Nat.testBit_two_pow_sub_one, show 2 ^ W - 1 - a = 2 ^ W - (a + 1) from by omega, Nat.testBit_two_pow_sub_succ h]
 by_cases hi : i < W
 · simp [hi]
 · have : a.testBit i = false := Nat.testBit_lt_two_pow (Nat.lt_of_lt_of_le h (Nat.pow_le_pow_right (by omega) (by omega)))
   simp [hi, this]
theorem upd_setRow (w : World) (b : Nat) (cs : Array Value) : Upd [b] w (w.setRow b cs) :=
 ⟨setRow_os _ _ _, setRow_tape _ _ _, setRow_output _ _ _, by rw [setRow_size]; exact Nat.le_refl _, fun i _ hn => setRow_other _ _ _ _ (by simpa using hn)⟩
theorem round_ok (W : Nat) (s : Sh) (v : V8) (k x : Nat) (h : v.Ok W) : (round W s v k x).Ok W :=
 ⟨Nat.mod_lt _ (Nat.two_pow_pos _), h.a, h.b, h.c, Nat.mod_lt _ (Nat.two_pow_pos _), h.e, h.f, h.g⟩
theorem getD_lt {W : Nat} {L : List Nat} (h : ∀ x ∈ L, x < 2 ^ W) (k : Nat) : L.getD k 0 < 2 ^ W := by
 rw [List.getD_eq_getElem?_getD]
 cases hk : L[k]? with
 | none => exact Nat.two_pow_pos _
 | some x => exact h x (List.mem_of_getElem? hk)
theorem sum32_4 (a b c d x : Nat) (h : x = (a + b + c + d) % 2 ^ 32) : Value.int .u32 (IntKind.u32.wrap (IntKind.u32.wrap (IntKind.u32.wrap ((a : Int) + b) + c) + d)) = u32v x := by
 rw [IntKind.wrap_u32, IntKind.wrap_u32, IntKind.wrap_u32]
 exact int_congr (by omega)
theorem sched32_round {wr W : World} {g t n : Nat} {L : List Nat} {nx : Nat} {T : TypeId} {z v : Value} (hg : wr.heap[g]? = some (.cells (L.map u32v ++ List.replicate (n - t) z).toArray T (0, 0))) (hu : Upd [] wr W) (hL : L.length = t) (ht : t < n) (hv : v = u32v nx) :
   (W.setCell ⟨g, t, none⟩ v).heap[g]? = some (.cells ((L ++ [nx]).map u32v ++ List.replicate (n - (t + 1)) z).toArray T (0, 0)) := by
 have h1 := (hu.block g (Array.getElem?_eq_some_iff.1 hg).1 (by simp)).trans hg
 rw [heap_setCell_same _ _ _ _ _ _ h1, List.setIfInBounds_toArray, List.set_append_right _ _ (by simp; omega), List.length_map, hL, Nat.sub_self, show n - t = n - (t + 1) + 1 from by omega, List.replicate_succ, List.set_cons_zero, List.map_append, List.append_assoc, hv]
 rfl
theorem row32_at {w : World} {g t n k : Nat} {T : TypeId} {L : List Nat} {z : Value} (h : w.heap[g]? = some (.cells (L.map u32v ++ List.replicate n z).toArray T (0, 0))) (hk : k < L.length) : w.cell? ⟨g, k, none⟩ = some (.int .u32 (L.getD k 0 : Nat)) := by
 rw [cell_of_row _ _ _ _ _ _ h, List.getElem?_toArray, List.getElem?_append_left (by simpa using hk), List.getElem?_map, List.getElem?_eq_getElem hk, List.getD_eq_getElem?_getD, List.getElem?_eq_getElem hk]; rfl
theorem bits32_and (a b : Nat) (ha : a < 4294967296) (hb : b < 4294967296) : bits .and .u32 (a : Int) (b : Int) = ((a &&& b : Nat) : Int) := u32_and_nat a b ha hb
theorem bits32_not (a : Nat) (ha : a < 4294967296) : bits .xor .u32 IntKind.u32.max (a : Int) = ((2 ^ 32 - 1 - a : Nat) : Int) := by
 rw [show IntKind.u32.max = ((4294967295 : Nat) : Int) from rfl, u32_xor_nat _ _ (by decide) ha, show (4294967295 : Nat) = 2 ^ 32 - 1 from rfl, not_xor 32 a ha]
theorem one32 (s : Sh) (v : V8) (kk x : Nat) (h : v.Ok 32) (hk : kk < 2 ^ 64) :
   IntKind.u32.wrap (IntKind.u32.wrap (IntKind.u32.wrap (IntKind.u32.wrap ((v.h : Int) + (big 32 v.e s.b : Nat)) + bits BinOp.xor IntKind.u32 (bits BinOp.and IntKind.u32 v.e v.f) (bits BinOp.and IntKind.u32 (bits BinOp.xor IntKind.u32 IntKind.u32.max v.e) v.g)) + IntKind.u32.wrap ((kk : Int) / 4294967296)) + x) = (one 32 s v (kk / 2 ^ 32) x : Nat) := by
 have he := h.e; have hf := h.f; have hg := h.g
 have hne : 2 ^ 32 - 1 - v.e < 4294967296 := by omega
 rw [bits32_and _ _ he hf, bits32_not _ he, bits32_and _ _ hne hg, u32_xor_nat _ _ (Nat.and_lt_two_pow (n := 32) _ hf) (Nat.and_lt_two_pow (n := 32) _ hg)]
 simp only [IntKind.wrap_u32]
 unfold one
 generalize big 32 v.e s.b = g1
 generalize v.e &&& v.f ^^^ (2 ^ 32 - 1 - v.e) &&& v.g = g2
 omega
theorem two32 (s : Sh) (v : V8) (h : v.Ok 32) :
   IntKind.u32.wrap ((big 32 v.a s.a : Nat) + bits BinOp.xor IntKind.u32 (bits BinOp.xor IntKind.u32 (bits BinOp.and IntKind.u32 v.a v.b) (bits BinOp.and IntKind.u32 v.a v.c)) (bits BinOp.and IntKind.u32 v.b v.c)) = (two 32 s v : Nat) := by
 have ha := h.a; have hb := h.b; have hc := h.c
 rw [bits32_and _ _ ha hb, bits32_and _ _ ha hc, bits32_and _ _ hb hc, u32_xor_nat _ _ (Nat.and_lt_two_pow (n := 32) _ hb) (Nat.and_lt_two_pow (n := 32) _ hc),
   u32_xor_nat _ _ (Nat.xor_lt_two_pow (n := 32) (Nat.and_lt_two_pow (n := 32) _ hb) (Nat.and_lt_two_pow (n := 32) _ hc)) (Nat.and_lt_two_pow (n := 32) _ hc)]
 rw [IntKind.wrap_u32]
 unfold two
 generalize big 32 v.a s.a = g1
 generalize v.a &&& v.b ^^^ v.a &&& v.c ^^^ v.b &&& v.c = g2
 omega
theorem round32_row (s : Sh) (v : V8) (kk x : Nat) (X1 X2 : Int) (h1 : X1 = (one 32 s v kk x : Nat)) (h2 : X2 = (two 32 s v : Nat)) :
   #[Value.int .u32 ((X1 + X2) % 4294967296), .int .u32 v.a, .int .u32 v.b, .int .u32 v.c, .int .u32 ((v.d + X1) % 4294967296), .int .u32 v.e, .int .u32 v.f, .int .u32 v.g] = v8c32 (round 32 s v kk x) := by
 subst h1 h2
 have e1 : (((one 32 s v kk x : Nat) : Int) + (two 32 s v : Nat)) % 4294967296 = (((one 32 s v kk x + two 32 s v) % 2 ^ 32 : Nat) : Int) := by omega
 have e2 : ((v.d : Int) + (one 32 s v kk x : Nat)) % 4294967296 = (((v.d + one 32 s v kk x) % 2 ^ 32 : Nat) : Int) := by omega
 rw [e1, e2]; rfl
theorem mix32_cell (k : Nat) (hk : k < 8) (A v O : V8) (kind size : Int) (rest : ByteArray) : (hc32 kind (mixV 32 k A v) O rest size)[1 + k]? = some (.int .u32 (A.list.getD k 0 : Nat)) := by
 match k, hk with
 | 0, _ => rfl
 | 1, _ => rfl
 | 2, _ => rfl
 | 3, _ => rfl
 | 4, _ => rfl
 | 5, _ => rfl
 | 6, _ => rfl
 | 7, _ => rfl
theorem mix32_set (k : Nat) (hk : k < 8) (A v O : V8) (kind size : Int) (rest : ByteArray) (x : Int) (hx : x = ((A.list.getD k 0 + v.list.getD k 0) % 2 ^ 32 : Nat)) :
   (hc32 kind (mixV 32 k A v) O rest size).setIfInBounds (1 + k) (.int .u32 x) = hc32 kind (mixV 32 (k + 1) A v) O rest size := by
 subst hx
 match k, hk with
 | 0, _ => rfl
 | 1, _ => rfl
 | 2, _ => rfl
 | 3, _ => rfl
 | 4, _ => rfl
 | 5, _ => rfl
 | 6, _ => rfl
 | 7, _ => rfl
theorem v8c32_cell (k : Nat) (hk : k < 8) (v : V8) : (v8c32 v)[k]? = some (.int .u32 (v.list.getD k 0 : Nat)) := by
 match k, hk with
 | 0, _ => rfl
 | 1, _ => rfl
 | 2, _ => rfl
 | 3, _ => rfl
 | 4, _ => rfl
 | 5, _ => rfl
 | 6, _ => rfl
 | 7, _ => rfl
theorem sum64_4 (a b c d x : Nat) (h : x = (a + b + c + d) % 2 ^ 64) : Value.int .u64 (IntKind.u64.wrap (IntKind.u64.wrap (IntKind.u64.wrap ((a : Int) + b) + c) + d)) = u64v x := by
 rw [IntKind.wrap_u64, IntKind.wrap_u64, IntKind.wrap_u64]
 exact int_congr (by omega)
theorem sched64_round {wr W : World} {g t n : Nat} {L : List Nat} {nx : Nat} {T : TypeId} {z v : Value} (hg : wr.heap[g]? = some (.cells (L.map u64v ++ List.replicate (n - t) z).toArray T (0, 0))) (hu : Upd [] wr W) (hL : L.length = t) (ht : t < n) (hv : v = u64v nx) :
   (W.setCell ⟨g, t, none⟩ v).heap[g]? = some (.cells ((L ++ [nx]).map u64v ++ List.replicate (n - (t + 1)) z).toArray T (0, 0)) := by
 have h1 := (hu.block g (Array.getElem?_eq_some_iff.1 hg).1 (by simp)).trans hg
 rw [heap_setCell_same _ _ _ _ _ _ h1, List.setIfInBounds_toArray, List.set_append_right _ _ (by simp; omega), List.length_map, hL, Nat.sub_self, show n - t = n - (t + 1) + 1 from by omega, List.replicate_succ, List.set_cons_zero, List.map_append, List.append_assoc, hv]
 rfl
theorem row64_at {w : World} {g t n k : Nat} {T : TypeId} {L : List Nat} {z : Value} (h : w.heap[g]? = some (.cells (L.map u64v ++ List.replicate n z).toArray T (0, 0))) (hk : k < L.length) : w.cell? ⟨g, k, none⟩ = some (.int .u64 (L.getD k 0 : Nat)) := by
 rw [cell_of_row _ _ _ _ _ _ h, List.getElem?_toArray, List.getElem?_append_left (by simpa using hk), List.getElem?_map, List.getElem?_eq_getElem hk, List.getD_eq_getElem?_getD, List.getElem?_eq_getElem hk]; rfl
theorem bits64_and (a b : Nat) (ha : a < 18446744073709551616) (hb : b < 18446744073709551616) : bits .and .u64 (a : Int) (b : Int) = ((a &&& b : Nat) : Int) := u64_and_nat a b ha hb
theorem bits64_not (a : Nat) (ha : a < 18446744073709551616) : bits .xor .u64 IntKind.u64.max (a : Int) = ((2 ^ 64 - 1 - a : Nat) : Int) := by
 rw [show IntKind.u64.max = ((18446744073709551615 : Nat) : Int) from rfl, u64_xor_nat _ _ (by decide) ha, show (18446744073709551615 : Nat) = 2 ^ 64 - 1 from rfl, not_xor 64 a ha]
theorem one64 (s : Sh) (v : V8) (kk x : Nat) (h : v.Ok 64) (hk : kk < 2 ^ 64) :
   IntKind.u64.wrap (IntKind.u64.wrap (IntKind.u64.wrap (IntKind.u64.wrap ((v.h : Int) + (big 64 v.e s.b : Nat)) + bits BinOp.xor IntKind.u64 (bits BinOp.and IntKind.u64 v.e v.f) (bits BinOp.and IntKind.u64 (bits BinOp.xor IntKind.u64 IntKind.u64.max v.e) v.g)) + (kk : Int)) + x) = (one 64 s v (kk / 2 ^ 0) x : Nat) := by
 have he := h.e; have hf := h.f; have hg := h.g
 have hne : 2 ^ 64 - 1 - v.e < 18446744073709551616 := by omega
 rw [bits64_and _ _ he hf, bits64_not _ he, bits64_and _ _ hne hg, u64_xor_nat _ _ (Nat.and_lt_two_pow (n := 64) _ hf) (Nat.and_lt_two_pow (n := 64) _ hg)]
 simp only [IntKind.wrap_u64]
 unfold one
 generalize big 64 v.e s.b = g1
 generalize v.e &&& v.f ^^^ (2 ^ 64 - 1 - v.e) &&& v.g = g2
 omega
theorem two64 (s : Sh) (v : V8) (h : v.Ok 64) :
   IntKind.u64.wrap ((big 64 v.a s.a : Nat) + bits BinOp.xor IntKind.u64 (bits BinOp.xor IntKind.u64 (bits BinOp.and IntKind.u64 v.a v.b) (bits BinOp.and IntKind.u64 v.a v.c)) (bits BinOp.and IntKind.u64 v.b v.c)) = (two 64 s v : Nat) := by
 have ha := h.a; have hb := h.b; have hc := h.c
 rw [bits64_and _ _ ha hb, bits64_and _ _ ha hc, bits64_and _ _ hb hc, u64_xor_nat _ _ (Nat.and_lt_two_pow (n := 64) _ hb) (Nat.and_lt_two_pow (n := 64) _ hc),
   u64_xor_nat _ _ (Nat.xor_lt_two_pow (n := 64) (Nat.and_lt_two_pow (n := 64) _ hb) (Nat.and_lt_two_pow (n := 64) _ hc)) (Nat.and_lt_two_pow (n := 64) _ hc)]
 rw [IntKind.wrap_u64]
 unfold two
 generalize big 64 v.a s.a = g1
 generalize v.a &&& v.b ^^^ v.a &&& v.c ^^^ v.b &&& v.c = g2
 omega
theorem round64_row (s : Sh) (v : V8) (kk x : Nat) (X1 X2 : Int) (h1 : X1 = (one 64 s v kk x : Nat)) (h2 : X2 = (two 64 s v : Nat)) :
   #[Value.int .u64 (IntKind.u64.wrap (X1 + X2)), .int .u64 v.a, .int .u64 v.b, .int .u64 v.c, .int .u64 (IntKind.u64.wrap (v.d + X1)), .int .u64 v.e, .int .u64 v.f, .int .u64 v.g] = v8c64 (round 64 s v kk x) := by
 subst h1 h2
 have e1 : (((one 64 s v kk x : Nat) : Int) + (two 64 s v : Nat)) % 18446744073709551616 = (((one 64 s v kk x + two 64 s v) % 2 ^ 64 : Nat) : Int) := by omega
 have e2 : ((v.d : Int) + (one 64 s v kk x : Nat)) % 18446744073709551616 = (((v.d + one 64 s v kk x) % 2 ^ 64 : Nat) : Int) := by omega
 rw [IntKind.wrap_u64, IntKind.wrap_u64]; rw [e1, e2]; rfl
theorem mix64_cell (k : Nat) (hk : k < 8) (A v O : V8) (kind size : Int) (rest : ByteArray) : (hc64 kind (mixV 64 k A v) O rest size)[9 + k]? = some (.int .u64 (A.list.getD k 0 : Nat)) := by
 match k, hk with
 | 0, _ => rfl
 | 1, _ => rfl
 | 2, _ => rfl
 | 3, _ => rfl
 | 4, _ => rfl
 | 5, _ => rfl
 | 6, _ => rfl
 | 7, _ => rfl
theorem mix64_set (k : Nat) (hk : k < 8) (A v O : V8) (kind size : Int) (rest : ByteArray) (x : Int) (hx : x = ((A.list.getD k 0 + v.list.getD k 0) % 2 ^ 64 : Nat)) :
   (hc64 kind (mixV 64 k A v) O rest size).setIfInBounds (9 + k) (.int .u64 x) = hc64 kind (mixV 64 (k + 1) A v) O rest size := by
 subst hx
 match k, hk with
 | 0, _ => rfl
 | 1, _ => rfl
 | 2, _ => rfl
 | 3, _ => rfl
 | 4, _ => rfl
 | 5, _ => rfl
 | 6, _ => rfl
 | 7, _ => rfl
theorem v8c64_cell (k : Nat) (hk : k < 8) (v : V8) : (v8c64 v)[k]? = some (.int .u64 (v.list.getD k 0 : Nat)) := by
 match k, hk with
 | 0, _ => rfl
 | 1, _ => rfl
 | 2, _ => rfl
 | 3, _ => rfl
 | 4, _ => rfl
 | 5, _ => rfl
 | 6, _ => rfl
 | 7, _ => rfl
end Go.Proofs.YtafhncpaoolljaaGreat
