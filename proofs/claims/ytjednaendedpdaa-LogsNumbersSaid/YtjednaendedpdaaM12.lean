/- Images in slots: Write, End. SHA-2 on plain numbers: words, blocks, sums; a sum that goes on. SHA-2: a word turned; mixed. -/
import Derived.Test.YtjednaendedpdaaM08
import Derived.Test.YtjednaendedpdaaRows
import Derived.Test.YtjednaendedpdaaM01
import Derived.Laws.BitsAllLaws
namespace Go.Proofs.Ytjednaendedpdaa
set_option maxRecDepth 100000
set_option linter.unusedVariables false
open Go Go.RowKit

/-- Where the blocks of a writer lie. -/
structure Spl (g q p bb cb : Nat) : Prop where
  hg : g ∉ [p, bb, cb]
  hq : q ∉ [p, bb, cb]
  hn : q ≠ g
theorem Spl.p {g q p bb cb : Nat} (h : Spl g q p bb cb) : p ∉ [g] ∧ bb ∉ [g] ∧ cb ∉ [g] ∧ q ∉ [g, p, bb, cb] := by
  obtain ⟨h1, h2, h3⟩ := h
  simp only [List.mem_cons, List.not_mem_nil, or_false, not_or] at h1 h2 ⊢
  exact ⟨fun e => h1.1 e.symm, fun e => h1.2.1 e.symm, fun e => h1.2.2 e.symm, h3, h2.1, h2.2.1, h2.2.2⟩
theorem upd_g {S : List Nat} {a b : World} {g p bb cb : Nat} (h : Upd S a b) (hs : ∀ k, k ∈ S → k ∈ [g, p, bb, cb]) : Upd [g, p, bb, cb] a b := h.mono hs
theorem drop_take_page (A : List UInt8) (z o : Nat) (ho : o = z % 64) (hz : z ≤ A.length) : ((A.take z).drop (64 * (z / 64))).length = o := by
  rw [List.length_drop, List.length_take]; omega
/-- Bytes that came behind others, in a page. -/
theorem page_more {page A : List UInt8} {m o n : Nat} (hp : page.length = 64) (h : page.take o = (A.drop m).take o) (ho : o + n ≤ 64) (hA : m + o + n ≤ A.length) :
    (page.take o ++ (A.drop (m + o)).take n ++ page.drop (o + n)).take (o + n) = (A.drop m).take (o + n) := by
  have hl : ((A.drop (m + o)).take n).length = n := by rw [List.length_take, List.length_drop]; omega
  have hl2 : (page.take o).length = o := by rw [List.length_take]; omega
  rw [List.take_append_of_le_length (by rw [List.length_append, hl, hl2]; exact Nat.le_refl _), List.take_of_length_le (by rw [List.length_append, hl, hl2]; exact Nat.le_refl _), h]
  rw [List.take_add, List.drop_drop]

end Go.Proofs.Ytjednaendedpdaa
namespace Go.Proofs.Ytjednaendedpdaa.Sha
set_option maxRecDepth 100000
set_option linter.unusedVariables false

/-- A word of W bits turned to the right. -/
def rotr (W x n : Nat) : Nat := x / 2 ^ n ||| x * 2 ^ (W - n) % 2 ^ W
/-- Three numbers of bits. -/
structure T3 where
  a : Nat
  b : Nat
  c : Nat
structure Sh where
  a : T3
  b : T3
  c : T3
  d : T3
def big (W x : Nat) (n : T3) : Nat := rotr W x n.a ^^^ rotr W x n.b ^^^ rotr W x n.c
def sml (W x : Nat) (n : T3) : Nat := rotr W x n.a ^^^ rotr W x n.b ^^^ x / 2 ^ n.c
def nextW (W : Nat) (s : Sh) (l : List Nat) : Nat :=
  (sml W (l.getD (l.length - 2) 0) s.d + l.getD (l.length - 7) 0 + sml W (l.getD (l.length - 15) 0) s.c + l.getD (l.length - 16) 0) % 2 ^ W
/-- n words more. -/
def sched (W : Nat) (s : Sh) : Nat → List Nat → List Nat
  | 0, l => l
  | n + 1, l => sched W s n (l ++ [nextW W s l])
/-- Eight words. -/
structure V8 where
  a : Nat
  b : Nat
  c : Nat
  d : Nat
  e : Nat
  f : Nat
  g : Nat
  h : Nat
def V8.list (v : V8) : List Nat := [v.a, v.b, v.c, v.d, v.e, v.f, v.g, v.h]
def one (W : Nat) (s : Sh) (v : V8) (k x : Nat) : Nat := (v.h + big W v.e s.b + ((v.e &&& v.f) ^^^ ((2 ^ W - 1 - v.e) &&& v.g)) + k + x) % 2 ^ W
def two (W : Nat) (s : Sh) (v : V8) : Nat := (big W v.a s.a + ((v.a &&& v.b) ^^^ (v.a &&& v.c) ^^^ (v.b &&& v.c))) % 2 ^ W
def round (W : Nat) (s : Sh) (v : V8) (k x : Nat) : V8 :=
  ⟨(one W s v k x + two W s v) % 2 ^ W, v.a, v.b, v.c, (v.d + one W s v k x) % 2 ^ W, v.e, v.f, v.g⟩
def rnds (W : Nat) (s : Sh) : List Nat → List Nat → V8 → V8
  | k :: ks, x :: xs, v => rnds W s ks xs (round W s v k x)
  | _, _, v => v
def plus (W : Nat) (v u : V8) : V8 :=
  ⟨(v.a + u.a) % 2 ^ W, (v.b + u.b) % 2 ^ W, (v.c + u.c) % 2 ^ W, (v.d + u.d) % 2 ^ W, (v.e + u.e) % 2 ^ W, (v.f + u.f) % 2 ^ W, (v.g + u.g) % 2 ^ W, (v.h + u.h) % 2 ^ W⟩
/-- A block's words. -/
def blk (W : Nat) (s : Sh) (ks : List Nat) (v : V8) (l : List Nat) : V8 :=
  plus W v (rnds W s ks (sched W s (ks.length - l.length) l) v)
/-- The number of bytes, the highest first. -/
def be (l : List UInt8) : Nat := l.foldl (fun x b => 256 * x + b.toNat) 0
/-- n bytes at a time, as numbers. -/
def wordsOf (n : Nat) : Nat → List UInt8 → List Nat
  | 0, _ => []
  | c + 1, l => be (l.take n) :: wordsOf n c (l.drop n)
/-- n bytes of a number, the highest first. -/
def bytesOf (x : Nat) : Nat → List UInt8
  | 0 => []
  | n + 1 => UInt8.ofNat (x / 256 ^ n) :: bytesOf x n

/-- A kind: bits of a word, shifts, constants, the words with which a sum begins. -/
structure Kd where
  W : Nat
  s : Sh
  ks : List Nat
  h : V8
def Kd.B (k : Kd) : Nat := 2 * k.W
def Kd.step (k : Kd) (v : V8) (l : List UInt8) : V8 := blk k.W k.s k.ks v (wordsOf (k.W / 8) 16 l)

/-- n blocks. -/
def run (B : Nat) (f : V8 → List UInt8 → V8) : Nat → V8 → List UInt8 → V8 × List UInt8
  | 0, v, l => (v, l)
  | n + 1, v, l => run B f n (f v (l.take B)) (l.drop B)
/-- All whole blocks. -/
def blks (B : Nat) (f : V8 → List UInt8 → V8) (v : V8) (l : List UInt8) : V8 × List UInt8 := run B f (l.length / B) v l
theorem run_add (B : Nat) (f : V8 → List UInt8 → V8) (m : Nat) : ∀ n v l, run B f (n + m) v l = run B f m (run B f n v l).1 (run B f n v l).2
  | 0, v, l => by rw [Nat.zero_add]; rfl
  | n + 1, v, l => by rw [show n + 1 + m = n + m + 1 from by omega, run, run_add B f m n]; rfl
theorem run_len (B : Nat) (f : V8 → List UInt8 → V8) : ∀ n v l, n * B ≤ l.length → (run B f n v l).2.length = l.length - n * B
  | 0, v, l, _ => by simp [run]
  | n + 1, v, l, h => by
    rw [Nat.add_mul, Nat.one_mul] at h
    rw [run, run_len B f n _ _ (by rw [List.length_drop]; omega), List.length_drop, Nat.add_mul, Nat.one_mul]; omega
theorem run_append (B : Nat) (f : V8 → List UInt8 → V8) (y : List UInt8) : ∀ n v l, n * B ≤ l.length → run B f n v (l ++ y) = ((run B f n v l).1, (run B f n v l).2 ++ y)
  | 0, v, l, _ => rfl
  | n + 1, v, l, h => by
    rw [Nat.add_mul, Nat.one_mul] at h
    rw [run, run, List.take_append_of_le_length (by omega), List.drop_append_of_le_length (by omega)]
    exact run_append B f y n _ _ (by rw [List.length_drop]; omega)
theorem blks_rest {B : Nat} (hB : 0 < B) (f : V8 → List UInt8 → V8) (v : V8) (l : List UInt8) : (blks B f v l).2.length = l.length % B := by
  unfold blks
  rw [run_len _ _ _ _ _ (Nat.div_mul_le_self _ _)]
  have := Nat.div_add_mod l.length B
  rw [Nat.mul_comm] at this; omega
/-- What is left goes ahead of what comes. -/
theorem blks_append {B : Nat} (hB : 0 < B) (f : V8 → List UInt8 → V8) (v : V8) (l y : List UInt8) :
    blks B f v (l ++ y) = blks B f (blks B f v l).1 ((blks B f v l).2 ++ y) := by
  have hr := blks_rest hB f v l
  have e : (l ++ y).length / B = l.length / B + ((blks B f v l).2 ++ y).length / B := by
    rw [List.length_append, List.length_append, hr]
    have := Nat.div_add_mod l.length B
    rw [show l.length + y.length = (l.length % B + y.length) + B * (l.length / B) from by omega, Nat.add_mul_div_left _ _ hB, Nat.add_comm]
  rw [show blks B f v (l ++ y) = run B f ((l ++ y).length / B) v (l ++ y) from rfl, e, run_add, run_append _ _ _ _ _ _ (Nat.div_mul_le_self _ _)]
  rfl

/-- What goes behind the bytes: so many zeros that the length comes last in a block. -/
def zeros (B n : Nat) : Nat := (B - B / 8 + B - (n + 1) % B) % B
def padB (B n : Nat) : List UInt8 := (128 : UInt8) :: (List.replicate (zeros B n) 0 ++ bytesOf (8 * n) (B / 8))
/-- The sum. -/
def Kd.sumV (k : Kd) (l : List UInt8) : V8 := (blks k.B k.step k.h (l ++ padB k.B l.length)).1
def Kd.sum (k : Kd) (l : List UInt8) : List UInt8 := (k.sumV l).list.flatMap fun x => bytesOf x (k.W / 8)
/-- A state that goes on: the words so far, what is left, how many bytes there were. -/
structure St where
  v : V8
  r : List UInt8
  n : Nat
def Kd.new (k : Kd) : St := ⟨k.h, [], 0⟩
def Kd.write (k : Kd) (s : St) (l : List UInt8) : St := let q := blks k.B k.step s.v (s.r ++ l); ⟨q.1, q.2, s.n + l.length⟩
def Kd.ask (k : Kd) (s : St) : List UInt8 := (blks k.B k.step s.v (s.r ++ padB k.B s.n)).1.list.flatMap fun x => bytesOf x (k.W / 8)
/-- The state of all bytes. -/
def Kd.at (k : Kd) (l : List UInt8) : St := ⟨(blks k.B k.step k.h l).1, (blks k.B k.step k.h l).2, l.length⟩
theorem Kd.at_write {k : Kd} (hB : 0 < k.B) (l y : List UInt8) : k.write (k.at l) y = k.at (l ++ y) := by
  simp only [Kd.write, Kd.at, ← blks_append hB, List.length_append]
theorem Kd.at_nil {k : Kd} : k.at [] = k.new := by
  simp only [Kd.at, Kd.new, blks, List.length_nil, Nat.zero_div]; rfl
theorem Kd.ask_at {k : Kd} (hB : 0 < k.B) (l : List UInt8) : k.ask (k.at l) = k.sum l := by
  simp only [Kd.ask, Kd.at, ← blks_append hB]; rfl

def sh256 : Sh := ⟨⟨2, 13, 22⟩, ⟨6, 11, 25⟩, ⟨7, 18, 3⟩, ⟨17, 19, 10⟩⟩
def sh512 : Sh := ⟨⟨28, 34, 39⟩, ⟨14, 18, 41⟩, ⟨1, 8, 7⟩, ⟨19, 61, 6⟩⟩
def K : List Nat := [4794697086780616226, 8158064640168781261, 13096744586834688815, 16840607885511220156, 4131703408338449720, 6480981068601479193, 10538285296894168987, 12329834152419229976, 15566598209576043074, 1334009975649890238, 2608012711638119052, 6128411473006802146, 8268148722764581231, 9286055187155687089, 11230858885718282805, 13951009754708518548, 16472876342353939154, 17275323862435702243, 1135362057144423861, 2597628984639134821, 3308224258029322869, 5365058923640841347, 6679025012923562964, 8573033837759648693, 10970295158949994411, 12119686244451234320, 12683024718118986047, 13788192230050041572, 14330467153632333762, 15395433587784984357, 489312712824947311, 1452737877330783856, 2861767655752347644, 3322285676063803686, 5560940570517711597, 5996557281743188959, 7280758554555802590, 8532644243296465576, 9350256976987008742, 10552545826968843579, 11727347734174303076, 12113106623233404929, 14000437183269869457, 14369950271660146224, 15101387698204529176, 15463397548674623760, 17586052441742319658, 1182934255886127544, 1847814050463011016, 2177327727835720531, 2830643537854262169, 3796741975233480872, 4115178125766777443, 5681478168544905931, 6601373596472566643, 7507060721942968483, 8399075790359081724, 8693463985226723168, 9568029438360202098, 10144078919501101548, 10430055236837252648, 11840083180663258601, 13761210420658862357, 14299343276471374635, 14566680578165727644, 15097957966210449927, 16922976911328602910, 17689382322260857208, 500013540394364858, 748580250866718886, 1242879168328830382, 1977374033974150939, 2944078676154940804, 3659926193048069267, 4368137639120453308, 4836135668995329356, 5532061633213252278, 6448918945643986474, 6902733635092675308, 7801388544844847127]
def H0 : Nat := 7640891576956012808
def H1 : Nat := 13503953896175478587
def H2 : Nat := 4354685564936845355
def H3 : Nat := 11912009170470909681
def H4 : Nat := 5840696475078001361
def H5 : Nat := 11170449401992604703
def H6 : Nat := 2270897969802886507
def H7 : Nat := 6620516959819538809
def k256 : Kd := ⟨32, sh256, (K.take 64).map (· / 4294967296), ⟨H0 / 4294967296, H1 / 4294967296, H2 / 4294967296, H3 / 4294967296, H4 / 4294967296, H5 / 4294967296, H6 / 4294967296, H7 / 4294967296⟩⟩
def k512 : Kd := ⟨64, sh512, K, ⟨H0, H1, H2, H3, H4, H5, H6, H7⟩⟩
/-- The document's constants: a root's first 64 bits behind the point, bit by bit, in numbers of 160 bits. -/
structure R3 where
  r : Nat
  q : Nat
  l : Nat
def M160 : Nat := 2 ^ 160
def rmore (p : Nat) (r q : Nat) : Nat := if p = 2 then (1 + r * 2) % M160 else ((1 + r * 3) % M160 + q * 3) % M160
def rstep (n p step : Nat) (s : R3) : R3 :=
  let g := if 64 ≤ step then n / 2 ^ (p * (step - 64)) % 2 ^ p else 0
  let l := (s.l * 2 ^ p + g) % M160
  let r := s.r * 2 % M160
  let q := s.q * 4 % M160
  let m := rmore p r q
  if l < m then ⟨r, q, l⟩ else ⟨(r * 1 + 1) % M160, ((q + r * 2) % M160 * 1 + 1) % M160, l - m⟩
def rloop (n p : Nat) : Nat → R3 → R3
  | 0, s => s
  | k + 1, s => rloop n p k (rstep n p k s)
def rootF (n p : Nat) : Nat := (rloop n p 67 ⟨0, 0, 0⟩).r % 2 ^ 64
def ps : List Nat := [2, 3, 5, 7, 11, 13, 17, 19, 23, 29, 31, 37, 41, 43, 47, 53, 59, 61, 67, 71, 73, 79, 83, 89, 97, 101, 103, 107, 109, 113, 127, 131, 137, 139, 149, 151, 157, 163, 167, 173, 179, 181, 191, 193, 197, 199, 211, 223, 227, 229, 233, 239, 241, 251, 257, 263, 269, 271, 277, 281, 283, 293, 307, 311, 313, 317, 331, 337, 347, 349, 353, 359, 367, 373, 379, 383, 389, 397, 401, 409]
theorem roots3 : ps.map (rootF · 3) = K := by decide +kernel
theorem roots2 : (ps.take 8).map (rootF · 2) = k512.h.list := by decide +kernel
theorem abc : (k256.sum [97, 98, 99]).take 8 = [0xba, 0x78, 0x16, 0xbf, 0x8f, 0x01, 0xcf, 0xea] := by decide +kernel
theorem nil512 : (k512.sum []).take 4 = [0xcf, 0x83, 0xe1, 0x35] := by decide +kernel
theorem abx : k256.sum [97, 98, 99] ≠ k256.sum [97, 98, 120] := by decide +kernel
end Go.Proofs.Ytjednaendedpdaa.Sha
namespace Go.Proofs.Ytjednaendedpdaa
set_option maxRecDepth 100000
set_option linter.unusedVariables false
open Go Go.RowKit Sha

theorem rotr_lt (W x n : Nat) (hx : x < 2 ^ W) : rotr W x n < 2 ^ W :=
  Nat.or_lt_two_pow (Nat.lt_of_le_of_lt (Nat.div_le_self _ _) hx) (Nat.mod_lt _ (Nat.two_pow_pos _))
theorem big_lt (W x : Nat) (n : T3) (hx : x < 2 ^ W) : big W x n < 2 ^ W :=
  Nat.xor_lt_two_pow (Nat.xor_lt_two_pow (rotr_lt _ _ _ hx) (rotr_lt _ _ _ hx)) (rotr_lt _ _ _ hx)
theorem sml_lt (W x : Nat) (n : T3) (hx : x < 2 ^ W) : sml W x n < 2 ^ W :=
  Nat.xor_lt_two_pow (Nat.xor_lt_two_pow (rotr_lt _ _ _ hx) (rotr_lt _ _ _ hx)) (Nat.lt_of_le_of_lt (Nat.div_le_self _ _) hx)
/-- Numbers of bits that a word of W bits is turned by. -/
structure Sha.T3.Ok (W : Nat) (n : T3) : Prop where
  a : 1 ≤ n.a ∧ n.a < W
  b : 1 ≤ n.b ∧ n.b < W
  c : 1 ≤ n.c ∧ n.c < W
def t3v (n : T3) : Value := .agg #[.int .i64 n.a, .int .i64 n.b, .int .i64 n.c]
theorem xor32 (a b : Nat) (ha : a < 4294967296) (hb : b < 4294967296) : bits .xor .u32 (a : Int) (b : Int) = ((a ^^^ b : Nat) : Int) := u32_xor_nat _ _ ha hb

theorem xor64 (a b : Nat) (ha : a < 18446744073709551616) (hb : b < 18446744073709551616) : bits .xor .u64 (a : Int) (b : Int) = ((a ^^^ b : Nat) : Int) := u64_xor_nat _ _ ha hb

end Go.Proofs.Ytjednaendedpdaa
