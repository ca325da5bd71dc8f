/- strings.IndexByte, strings.Cut, the Builder's String, by the library's contracts. Small laws that the texts of this place share: worlds, carries, bits. Nothing of the program. Manifest: the plain answers: digits, names, lines, texts. Manifest: what is printed is parsed as it was; what is parsed is printed as it was. Manifest: strings.Cut at an end of a line, at two blanks: what it tells of a line. Manifest: the texts' lines one by one; names that are each their own. -/
import Derived.Shelf.Small.Strs
import Derived.Shelf.Strings.BuilderK
import Derived.Shelf.Strings.Cut
import Derived.Test.YtafhncpaoolljaaGreatProg
import Derived.WalkKit
import Derived.WalkLawsBesides
import Derived.WalkSpells
import Derived.Handy
import Derived.RegionTactic
import Derived.BigRegion
import Derived.Deep.QuietTactic
import Derived.BigQuiet
import Derived.StillTailTactics
import Derived.Shelf.Spec.BitsCarry
import Derived.Lib.IndexMore
namespace Go.Proofs
set_option maxRecDepth 100000
set_option linter.unusedVariables false
open Go.Shelf
def Tryz.lays137_ren : Go.Shelf.Ren := ⟨fun | 137 => 54 | 217 => 93 | 266 => 127 | n => n, fun | 9 => 9 | 5 => 5 | 3 => 3 | n => n, fun | n => n⟩
theorem Tryz.lays137 : Go.Proofs.Lays.n137 Tryz.prog Tryz.lays137_ren := {
 mixed := by kernel_rfl
 f137 := Tryz.func54.trans (congrArg some (by kernel_rfl))
 f217 := Tryz.func93.trans (congrArg some (by kernel_rfl))
 f266 := Tryz.func127.trans (congrArg some (by kernel_rfl))
 t3 := Tryz.underlying3
 a3 := Tryz.isAgg3
 z3 := Tryz.sizeOf3
 v3 := Tryz.zeroValue3
 t5 := Tryz.underlying5
 a5 := Tryz.isAgg5
 z5 := Tryz.sizeOf5
 v5 := Tryz.zeroValue5
 t9 := Tryz.underlying9
 a9 := Tryz.isAgg9
 z9 := Tryz.sizeOf9
 v9 := Tryz.zeroValue9 }
open Go.RowKit in
theorem Tryz.strings_IndexByte (s : ByteArray) (c : Int) (w : World) :
   Calls Tryz.prog 54 #[.string s, .int .u8 c] w fun e w' => e = .returned (.int .i64 (Lib.indexByte s.data.toList c.toNat.toUInt8)) ∧ w' = w := Any.strings_IndexByte Tryz.lays137 s c w
def Tryz.lays169_ren : Go.Shelf.Ren := ⟨fun | 169 => 24 | n => n, fun | 70 => 42 | 9 => 9 | 0 => 0 | 72 => 44 | 37 => 29 | 127 => 80 | 3 => 3 | 5 => 5 | n => n, fun | n => n⟩
theorem Tryz.lays169 : Go.Proofs.Lays.n169 Tryz.prog Tryz.lays169_ren := {
 mixed := by kernel_rfl
 f169 := Tryz.func24.trans (congrArg some (by kernel_rfl))
 t0 := Tryz.underlying0
 a0 := Tryz.isAgg0
 z0 := Tryz.sizeOf0
 v0 := Tryz.zeroValue0
 t3 := Tryz.underlying3
 a3 := Tryz.isAgg3
 z3 := Tryz.sizeOf3
 v3 := Tryz.zeroValue3
 t9 := Tryz.underlying9
 a9 := Tryz.isAgg9
 z9 := Tryz.sizeOf9
 v9 := Tryz.zeroValue9
 t37 := Tryz.underlying29
 a37 := Tryz.isAgg29
 z37 := Tryz.sizeOf29
 v37 := Tryz.zeroValue29
 t70 := Tryz.underlying42
 a70 := Tryz.isAgg42
 z70 := Tryz.sizeOf42
 v70 := Tryz.zeroValue42
 t72 := Tryz.underlying44
 a72 := Tryz.isAgg44
 z72 := Tryz.sizeOf44
 v72 := Tryz.zeroValue44
 t127 := Tryz.underlying80
 a127 := Tryz.isAgg80
 z127 := Tryz.sizeOf80
 v127 := Tryz.zeroValue80 }
theorem Tryz.Builder_Extra_169 : Builder.Extra Tryz.prog Tryz.lays169_ren := {
 sizeBuilder := by kernel_rfl
 liesBuilder := by kernel_rfl
 t5 := Tryz.underlying5
 a5 := Tryz.isAgg5
 z5 := Tryz.sizeOf5
 v5 := Tryz.zeroValue5
 infoByte := by kernel_rfl
 cellsByte := by kernel_rfl
 sizeByte := by kernel_rfl
 neB5 := by decide }
open Go.RowKit in
open Go.RowKit in
open Go.RowKit in
theorem Tryz.Builder_String_any_k (B b : Nat) (l : List UInt8) (w : World) (h : Lib.IsBuilderF 44 5 B b (Lib.byteCells l) w) (hBw : B ≤ w.heap.size) :
   Calls Tryz.prog 24 #[.pointer (some ⟨b, 0, none⟩)] w fun e w' => e = .returned (.string ⟨l.toArray⟩) ∧ (Lib.IsBuilderF 44 5 B b (Lib.byteCells l) w' ∧ Below B w w' ∧ Lib.OthersKept 5 (some b) w w') := Any.Builder_String_any_k Tryz.lays169 Tryz.Builder_Extra_169 B b l w h hBw
open Go.RowKit Go.Lib in
def Tryz.lays145_ren : Go.Shelf.Ren := ⟨fun | 145 => 25 | 220 => 53 | 219 => 92 | 217 => 93 | 225 => 124 | 224 => 125 | 267 => 126 | 266 => 127 | 314 => 139 | n => n, fun | 9 => 9 | 4 => 4 | 59 => 38 | 3 => 3 | 5 => 5 | 46 => 79 | 146 => 129 | 51 => 112 | n => n, fun | 1 => 0 | n => n⟩
theorem Tryz.lays145 : Go.Proofs.Lays.n145 Tryz.prog Tryz.lays145_ren := {
 mixed := by kernel_rfl
 f145 := Tryz.func25.trans (congrArg some (by kernel_rfl))
 f217 := Tryz.func93.trans (congrArg some (by kernel_rfl))
 f219 := Tryz.func92.trans (congrArg some (by kernel_rfl))
 f220 := Tryz.func53.trans (congrArg some (by kernel_rfl))
 f224 := Tryz.func125.trans (congrArg some (by kernel_rfl))
 f225 := Tryz.func124.trans (congrArg some (by kernel_rfl))
 f266 := Tryz.func127.trans (congrArg some (by kernel_rfl))
 f267 := Tryz.func126.trans (congrArg some (by kernel_rfl))
 f314 := Tryz.func139.trans (congrArg some (by kernel_rfl))
 t3 := Tryz.underlying3
 a3 := Tryz.isAgg3
 z3 := Tryz.sizeOf3
 v3 := Tryz.zeroValue3
 t4 := Tryz.underlying4
 a4 := Tryz.isAgg4
 z4 := Tryz.sizeOf4
 v4 := Tryz.zeroValue4
 t5 := Tryz.underlying5
 a5 := Tryz.isAgg5
 z5 := Tryz.sizeOf5
 v5 := Tryz.zeroValue5
 t9 := Tryz.underlying9
 a9 := Tryz.isAgg9
 z9 := Tryz.sizeOf9
 v9 := Tryz.zeroValue9
 t46 := Tryz.underlying79
 a46 := Tryz.isAgg79
 z46 := Tryz.sizeOf79
 v46 := Tryz.zeroValue79
 t51 := Tryz.underlying112
 a51 := Tryz.isAgg112
 z51 := Tryz.sizeOf112
 v51 := Tryz.zeroValue112
 t59 := Tryz.underlying38
 a59 := Tryz.isAgg38
 z59 := Tryz.sizeOf38
 v59 := Tryz.zeroValue38
 t146 := Tryz.underlying129
 a146 := Tryz.isAgg129
 z146 := Tryz.sizeOf129
 v146 := Tryz.zeroValue129
 g1 := by kernel_rfl }
open Go.RowKit Go.Lib in
theorem Tryz.strings_Cut (s sep : ByteArray) (m : Int) (w : World) (hs : s.size < 4294967281) (hm : w.cell? ⟨0, 0, none⟩ = some (.int .i64 m)) :
   Calls Tryz.prog 25 #[.string s, .string sep] w fun e w' => e = .returned (.tuple #[.string ⟨(Lib.cut s.data.toList sep.data.toList).1.toArray⟩, .string ⟨(Lib.cut s.data.toList sep.data.toList).2.1.toArray⟩, .bool (Lib.cut s.data.toList sep.data.toList).2.2]) ∧ ∃ n, w' = w.drewN n := Any.strings_Cut Tryz.lays145 s sep m w hs hm
end Go.Proofs
namespace Go.Proofs.YtafhncpaoolljaaGreat
set_option maxRecDepth 100000
set_option linter.unusedVariables false
open Go Go.RowKit
structure Box (p : Prop) : Prop where
 out : p
theorem bcell {W w1 : World} (hb : Below W.heap.size W w1) : (∀ b o, b < W.heap.size → w1.cell? ⟨b, o, none⟩ = W.cell? ⟨b, o, none⟩) ∧ (∀ b o, b < W.heap.size → w1.frozen? ⟨b, o, none⟩ = W.frozen? ⟨b, o, none⟩) :=
 ⟨fun b o h => hb.cell (p := ⟨b, o, none⟩) h, fun b o h => hb.frozen (p := ⟨b, o, none⟩) h⟩
theorem two_new {w w1 : World} {A B : Obj} (h : Below ((w.alloc A).alloc B).heap.size ((w.alloc A).alloc B) w1) :
   w1.heap[w.heap.size]? = some A ∧ w1.heap[w.heap.size + 1]? = some B ∧ Below w.heap.size w w1 ∧ w.heap.size + 2 ≤ w1.heap.size := by
 have hz := h.size
 simp only [World.size_alloc] at hz
 refine ⟨?_, ?_, (((Below.refl _ _).alloc (Nat.le_refl _) _).alloc (by simp) _).trans (h.mono (by simp; omega)), hz⟩
 · rw [h.block w.heap.size (by simp; omega), heap_alloc_old _ _ (by simp), heap_alloc_new]
 · have := heap_alloc_new (w.alloc A) B
   rw [World.size_alloc] at this
   rw [h.block (w.heap.size + 1) (by simp), this]
@[irreducible] def limb (n i : Nat) : Int := ((n / 2 ^ (64 * i) % 18446744073709551616 : Nat) : Int)
theorem limb_bd (n i : Nat) : 0 ≤ limb n i ∧ limb n i < 18446744073709551616 := by unfold limb; omega
theorem int_congr {k : IntKind} {a b : Int} (h : a = b) : Value.int k a = Value.int k b := by rw [h]
theorem agg4_congr {k : IntKind} {a b c d a' b' c' d' : Int} (h0 : a = a') (h1 : b = b') (h2 : c = c') (h3 : d = d') :
   Value.agg #[.int k a, .int k b, .int k c, .int k d] = Value.agg #[.int k a', .int k b', .int k c', .int k d'] := by rw [h0, h1, h2, h3]
theorem add64_ex (P : Program) (f : FuncId) (fn : Func) (hf : P.funcs[f]? = some fn) (hname : (fn.name == "runtime.NumGoroutine") = false)
   (hb : fn.body.isNone = true) (hn : Extern.findNext fn = none) (he : Extern.find fn = some add64Entry) (x y c : Int)
   (hx : 0 ≤ x ∧ x < 18446744073709551616) (hy : 0 ≤ y ∧ y < 18446744073709551616) (hc : 0 ≤ c ∧ c ≤ 1) :
   ∃ s o : Int, (∀ w, (callFunc f #[.int .u64 x, .int .u64 y, .int .u64 c]).run P w = .ok (.value (.tuple #[.int .u64 s, .int .u64 o])) w) ∧
     (0 ≤ s ∧ s < 18446744073709551616) ∧ (0 ≤ o ∧ o ≤ 1) ∧ s + 18446744073709551616 * o = x + y + c := by
 refine ⟨(x + y + c) % 18446744073709551616, (x + y + c) / 18446744073709551616, fun w => ?_, by omega, by omega, by omega⟩
 rw [run_callFunc_extern hf hname hb hn he, run_add64 x y c (by omega) (by omega) (by omega) (by omega)]
 rfl
theorem sub64_ex (P : Program) (f : FuncId) (fn : Func) (hf : P.funcs[f]? = some fn) (hname : (fn.name == "runtime.NumGoroutine") = false)
   (hb : fn.body.isNone = true) (hn : Extern.findNext fn = none) (he : Extern.find fn = some sub64Entry) (x y c : Int)
   (hx : 0 ≤ x ∧ x < 18446744073709551616) (hy : 0 ≤ y ∧ y < 18446744073709551616) (hc : 0 ≤ c ∧ c ≤ 1) :
   ∃ s o : Int, (∀ w, (callFunc f #[.int .u64 x, .int .u64 y, .int .u64 c]).run P w = .ok (.value (.tuple #[.int .u64 s, .int .u64 o])) w) ∧
     (0 ≤ s ∧ s < 18446744073709551616) ∧ (0 ≤ o ∧ o ≤ 1) ∧ s = x - y - c + 18446744073709551616 * o := by
 obtain ⟨x, rfl⟩ := Int.eq_ofNat_of_zero_le hx.1
 obtain ⟨y, rfl⟩ := Int.eq_ofNat_of_zero_le hy.1
 obtain ⟨c, rfl⟩ := Int.eq_ofNat_of_zero_le hc.1
 refine ⟨_, _, fun w => by rw [run_callFunc_extern hf hname hb hn he, run_sub64 x y c (by omega)]; rfl, by omega, ?_, ?_⟩
 · split <;> omega
 · split <;> omega
theorem or_bit (a b : Int) (ha : 0 ≤ a ∧ a < 18446744073709551616) (hb : 0 ≤ b ∧ b ≤ 1) :
   bits .or .u64 (IntKind.u64.wrap (a * 2)) b = a * 2 % 18446744073709551616 + b := by
 obtain ⟨a, rfl⟩ := Int.eq_ofNat_of_zero_le ha.1
 obtain ⟨b, rfl⟩ := Int.eq_ofNat_of_zero_le hb.1
 rw [IntKind.wrap_u64, show ((a : Int) * 2 % 18446744073709551616) = ((a * 2 % 18446744073709551616 : Nat) : Int) from by omega,
   u64_or_nat _ _ (by omega) (by omega), nat_join 1 _ _ (by omega) (by omega)]
 omega
theorem run_bytes_of_row (P : Program) (w : World) (b cap : Nat) (l : List UInt8) (t src dst e : TypeId) (n : Nat) (hn : l.length = n)
   (hs : P.underlying src = some (.slice e)) (he : P.underlying e = some (.int .u8)) (hd : P.underlying dst = some .string)
   (hg : w.heap[b]? = some (.cells (l.map fun u => Value.int .u8 (u.toNat : Int)).toArray t (0, 0))) :
   (convert src dst (.slice (some ⟨b, 0, none⟩) n cap)).run P w = .ok (.string ⟨l.toArray⟩) w := by
 subst hn
 rw [run_convert_bytes_string w src dst e _ _ _ hs he hd]
 have h := run_loadCells_list (P := P) (w := w) ⟨b, 0, none⟩ ((l.map fun u => (u.toNat : Int)).map (Value.int .u8)) (by
   intro j v hj
   have : (⟨b, 0, none⟩ : Addr).add j = ⟨b, j, none⟩ := by unfold Addr.add; split <;> simp_all
   rw [this, cell_of_row w b j _ t (0, 0) hg]
   simpa [List.map_map, Function.comp_def] using hj)
 rw [List.length_map, List.length_map] at h
 rw [run_bytesToString w _ _ _ _ h]
 have : ∀ (l : List UInt8) (acc : ByteArray), (l.map fun u => (u.toNat : Int)).foldl (fun r n => r.push (UInt8.ofNat n.toNat)) acc = ⟨(acc.data.toList ++ l).toArray⟩ := by
   intro l
   induction l with
   | nil => intro acc; simp
   | cons c l ih => intro acc; simp only [List.map_cons, List.foldl_cons]; rw [ih]; simp [ByteArray.push]
 rw [this]
 rfl
theorem quiet_calls {P : Program} {f : FuncId} {args : Array Value} {w : World} {n : Nat} {v : Value}
   (h : Calls P f args (w.drewN n) fun e w' => e = .returned v ∧ w.drewN n = w') : Calls P f args (w.drewN n) fun e w'' => e = .returned v ∧ ∃ m, w'' = w.drewN m :=
 h.mono fun _ _ ⟨he, hm⟩ => ⟨he, n, hm.symm⟩
open Go Go.RowKit
structure SM where
 name : ByteArray
 sum : ByteArray
theorem SM.eq_iff (a b : SM) : a = b ↔ (a.name = b.name ∧ a.sum = b.sum) :=
 ⟨fun h => by subst h; exact ⟨rfl, rfl⟩, fun ⟨h1, h2⟩ => by cases a; cases b; simp only at h1 h2; subst h1 h2; rfl⟩
instance : DecidableEq SM := fun a b => decidable_of_iff _ (SM.eq_iff a b).symm
def dgM (n : Nat) : UInt8 := if n < 10 then UInt8.ofNat (48 + n) else UInt8.ofNat (87 + n)
def hexL : List UInt8 → List UInt8
 | [] => []
 | b :: l => dgM (b.toNat / 16) :: dgM (b.toNat % 16) :: hexL l
def valM (c : UInt8) : Option Nat := if 48 ≤ c.toNat ∧ c.toNat ≤ 57 then some (c.toNat - 48) else if 97 ≤ c.toNat ∧ c.toNat ≤ 102 then some (c.toNat - 87) else none
def unhexL : List UInt8 → Option (List UInt8)
 | [] => some []
 | [_] => none
 | a :: b :: l => match valM a, valM b, unhexL l with
   | some x, some y, some r => some (UInt8.ofNat (16 * x + y) :: r)
   | _, _, _ => none
theorem dg_val : ∀ n, n < 16 → valM (dgM n) = some n := by decide
theorem val_dg {c : UInt8} {n : Nat} (h : valM c = some n) : n < 16 ∧ dgM n = c := by
 unfold valM at h
 have hc := c.toNat_lt
 split at h
 · rename_i h1
   injection h with h
   refine ⟨by omega, ?_⟩
   rw [← h]; unfold dgM
   rw [if_pos (by omega), ← UInt8.toNat_inj, UInt8.toNat_ofNat']; omega
 · split at h
   · rename_i h1
     injection h with h
     refine ⟨by omega, ?_⟩
     rw [← h]; unfold dgM
     rw [if_neg (by omega), ← UInt8.toNat_inj, UInt8.toNat_ofNat']; omega
   · cases h
theorem hexL_len : ∀ l, (hexL l).length = 2 * l.length
 | [] => rfl
 | b :: l => by simp only [hexL, List.length_cons, hexL_len l]; omega
theorem hexL_app : ∀ a b, hexL (a ++ b) = hexL a ++ hexL b
 | [], _ => rfl
 | x :: a, b => by simp [hexL, hexL_app a b]
theorem unhex_hex : ∀ l, unhexL (hexL l) = some l
 | [] => rfl
 | b :: l => by
   have hb := b.toNat_lt
   rw [hexL, unhexL, dg_val _ (by omega), dg_val _ (by omega), unhex_hex l]
   simp only [Option.some.injEq, List.cons.injEq, and_true]
   rw [← UInt8.toNat_inj, UInt8.toNat_ofNat']; omega
theorem hex_unhex : ∀ (s l : List UInt8), unhexL s = some l → hexL l = s
 | [], l, h => by rw [unhexL] at h; injection h with h; rw [← h]; rfl
 | [_], l, h => by rw [unhexL] at h; cases h
 | a :: b :: s, l, h => by
   rw [unhexL] at h
   cases ha : valM a with
   | none => simp [ha] at h
   | some x =>
     cases hb : valM b with
     | none => simp [ha, hb] at h
     | some y =>
       cases hs : unhexL s with
       | none => simp [ha, hb, hs] at h
       | some r =>
         simp only [ha, hb, hs, Option.some.injEq] at h
         obtain ⟨h1, h2⟩ := val_dg ha
         obtain ⟨h3, h4⟩ := val_dg hb
         rw [← h, hexL, hex_unhex s r hs, UInt8.toNat_ofNat', show (16 * x + y) % 2 ^ 8 = 16 * x + y by omega, show (16 * x + y) / 16 = x by omega, show (16 * x + y) % 16 = y by omega, h2, h4]
theorem dg_no (n : Nat) (h : n < 16) : dgM n ≠ 32 ∧ dgM n ≠ 10 := by
 have : ∀ n, n < 16 → dgM n ≠ 32 ∧ dgM n ≠ 10 := by decide
 exact this n h
theorem hexL_no : ∀ (l : List UInt8) (c : UInt8), c ∈ hexL l → c ≠ 32 ∧ c ≠ 10
 | [], c, h => by cases h
 | b :: l, c, h => by
   have hb := b.toNat_lt
   simp only [hexL, List.mem_cons] at h
   rcases h with rfl | rfl | h
   · exact dg_no _ (by omega)
   · exact dg_no _ (by omega)
   · exact hexL_no l c h
def nmB (c : UInt8) : Bool := decide (32 < c.toNat ∧ c.toNat < 127)
def SM.may (x : SM) : Bool := decide (x.sum.size = 32) && decide (1 ≤ x.name.size) && decide (x.name.size ≤ 100) && x.name.data.toList.all nmB
def SM.line (x : SM) : List UInt8 := hexL x.sum.data.toList ++ [32, 32] ++ x.name.data.toList ++ [10]
def textM (l : List SM) : List UInt8 := (l.map SM.line).flatten
def onceM : List SM → Bool
 | [] => true
 | x :: l => l.all (fun y => decide (y.name ≠ x.name)) && onceM l
def printM (F T : Int) (l : List SM) : List UInt8 × Int :=
 if l.length < 1 ∨ 16 < l.length then ([], F) else
 if l.all SM.may = false then ([], F) else
 if onceM l = false then ([], T) else (textM l, 0)
def cutL (s : List UInt8) : Option (List UInt8 × List UInt8) :=
 match s with
 | [] => none
 | c :: s => if c = 10 then some ([], s) else (cutL s).map fun p => (c :: p.1, p.2)
def lineM (s : List UInt8) : Option SM :=
 match unhexL (s.take 64) with
 | none => none
 | some d => if 67 ≤ s.length ∧ (s.drop 64).take 2 = [32, 32] ∧ (SM.mk ⟨(s.drop 66).toArray⟩ ⟨d.toArray⟩).may = true then some ⟨⟨(s.drop 66).toArray⟩, ⟨d.toArray⟩⟩ else none
theorem cutL_some : ∀ {s a b : List UInt8}, cutL s = some (a, b) → s = a ++ 10 :: b ∧ 10 ∉ a
 | [], _, _, h => by cases h
 | c :: s, a, b, h => by
   rw [cutL] at h
   split at h
   · rename_i hc
     injection h with h; injection h with h1 h2
     subst h1; subst h2; exact ⟨by rw [hc]; rfl, by simp⟩
   · rename_i hc
     cases hs : cutL s with
     | none => rw [hs] at h; cases h
     | some p =>
       obtain ⟨x, y⟩ := p
       rw [hs] at h
       simp only [Option.map_some, Option.some.injEq, Prod.mk.injEq] at h
       obtain ⟨e1, e2⟩ := cutL_some hs
       obtain ⟨rfl, rfl⟩ := h
       exact ⟨by rw [e1]; rfl, fun hm => (List.mem_cons.1 hm).elim (fun h => hc h.symm) e2⟩
theorem cutL_mk : ∀ (a b : List UInt8), 10 ∉ a → cutL (a ++ 10 :: b) = some (a, b)
 | [], b, _ => by rw [List.nil_append, cutL, if_pos rfl]
 | c :: a, b, h => by
   rw [List.cons_append, cutL, if_neg (fun e => h (by simp [e])), cutL_mk a b (fun hm => h (List.mem_cons_of_mem _ hm))]; rfl
theorem cutL_len {s a b : List UInt8} (h : cutL s = some (a, b)) : b.length < s.length := by
 rw [(cutL_some h).1]; simp; omega
def linesM : Nat → List UInt8 → Option (List SM)
 | 0, _ => none
 | n + 1, s => if s = [] then some [] else
   match cutL s with
   | none => none
   | some (a, b) => match lineM a with
     | none => none
     | some x => (linesM n b).map (x :: ·)
def parseM (F T : Int) (s : List UInt8) : List SM × Int :=
 match linesM (s.length + 1) s with
 | none => ([], F)
 | some l => if (printM F T l).2 = 0 then (l, 0) else ([], (printM F T l).2)
open Go Go.RowKit
structure SM.May (x : SM) : Prop where
 sum : x.sum.size = 32
 some : 1 ≤ x.name.size
 few : x.name.size ≤ 100
 all : ∀ c ∈ x.name.data.toList, 32 < c.toNat ∧ c.toNat < 127
theorem SM.may_iff (x : SM) : x.may = true ↔ x.May := by
 unfold SM.may
 rw [Bool.and_eq_true, Bool.and_eq_true, Bool.and_eq_true, decide_eq_true_iff, decide_eq_true_iff, decide_eq_true_iff, List.all_eq_true]
 constructor
 · rintro ⟨⟨⟨h1, h2⟩, h3⟩, h4⟩
   exact ⟨h1, h2, h3, fun c hc => of_decide_eq_true (h4 c hc)⟩
 · rintro ⟨h1, h2, h3, h4⟩
   exact ⟨⟨⟨h1, h2⟩, h3⟩, fun c hc => decide_eq_true (h4 c hc)⟩
theorem ba_len (s : ByteArray) : s.data.toList.length = s.size := Array.length_toList
def SM.head (x : SM) : List UInt8 := hexL x.sum.data.toList ++ [32, 32] ++ x.name.data.toList
theorem SM.line_eq (x : SM) : x.line = x.head ++ [10] := rfl
theorem SM.head_no {x : SM} (h : x.May) : 10 ∉ x.head := by
 unfold SM.head
 simp only [List.mem_append, not_or]
 refine ⟨⟨fun hm => (hexL_no _ _ hm).2 rfl, by decide⟩, fun hm => ?_⟩
 have := h.all _ hm
 exact absurd this.1 (by decide)
theorem SM.hex_len {x : SM} (h : x.May) : (hexL x.sum.data.toList).length = 64 := by rw [hexL_len, ba_len, h.sum]
theorem SM.head_parts {x : SM} (h : x.May) : x.head.take 64 = hexL x.sum.data.toList ∧ (x.head.drop 64).take 2 = [32, 32] ∧ x.head.drop 66 = x.name.data.toList ∧ 67 ≤ x.head.length := by
 have hl := SM.hex_len h
 have hn := h.some
 unfold SM.head
 refine ⟨?_, ?_, ?_, ?_⟩
 · rw [List.append_assoc, List.take_append_of_le_length (by omega), List.take_of_length_le (by omega)]
 · rw [List.append_assoc, List.drop_append_of_le_length (by omega), List.drop_of_length_le (by omega)]; rfl
 · rw [List.drop_append_of_le_length (by simp; omega), List.drop_of_length_le (by simp; omega)]; rfl
 · simp only [List.length_append, List.length_cons, List.length_nil, hl]; rw [ba_len]; omega
theorem lineM_head {x : SM} (h : x.May) : lineM x.head = some x := by
 obtain ⟨e1, e2, e3, e4⟩ := SM.head_parts h
 unfold lineM
 rw [e1, unhex_hex]
 dsimp only
 rw [e2, e3]
 have hx : (⟨⟨x.name.data.toList.toArray⟩, ⟨x.sum.data.toList.toArray⟩⟩ : SM) = x := by rw [SM.eq_iff]; exact ⟨by simp, by simp⟩
 rw [hx, if_pos ⟨e4, rfl, (SM.may_iff x).2 h⟩]
theorem lineM_some {s : List UInt8} {x : SM} (h : lineM s = some x) : x.May ∧ x.head = s := by
 unfold lineM at h
 split at h
 · cases h
 · rename_i d hd
   split at h
   · rename_i hc
     injection h with h
     obtain ⟨h1, h2, h3⟩ := hc
     subst h
     refine ⟨(SM.may_iff _).1 h3, ?_⟩
     unfold SM.head
     show hexL d ++ [32, 32] ++ s.drop 66 = s
     rw [hex_unhex _ _ hd, ← h2]
     have e : s.drop 66 = (s.drop 64).drop 2 := by rw [List.drop_drop]
     rw [e, List.append_assoc, List.take_append_drop, List.take_append_drop]
   · cases h
theorem textM_cons (x : SM) (l : List SM) : textM (x :: l) = x.head ++ 10 :: textM l := by
 unfold textM
 rw [List.map_cons, List.flatten_cons, SM.line_eq, List.append_assoc]; rfl
theorem linesM_text : ∀ (l : List SM), (∀ x ∈ l, x.May) → ∀ n, (textM l).length < n → linesM n (textM l) = some l
 | [], _, n + 1, _ => by rw [linesM]; exact if_pos rfl
 | x :: l, h, n + 1, hn => by
   have hx := h x List.mem_cons_self
   rw [linesM, if_neg (by rw [textM_cons]; simp), textM_cons, cutL_mk _ _ (SM.head_no hx)]
   dsimp only
   rw [lineM_head hx]
   dsimp only
   rw [linesM_text l (fun y hy => h y (List.mem_cons_of_mem _ hy)) n (by rw [textM_cons] at hn; simp at hn; omega)]
   rfl
theorem mays_iff (l : List SM) : l.all SM.may = true ↔ ∀ x ∈ l, x.May := by
 rw [List.all_eq_true]; exact ⟨fun h x hx => (SM.may_iff x).1 (h x hx), fun h x hx => (SM.may_iff x).2 (h x hx)⟩
theorem printM_ok {F T : Int} (hF : F ≠ 0) (hT : T ≠ 0) {l : List SM} {t : List UInt8} (h : printM F T l = (t, 0)) : t = textM l ∧ (∀ x ∈ l, x.May) ∧ 1 ≤ l.length ∧ l.length ≤ 16 ∧ onceM l = true := by
 unfold printM at h
 split at h
 · injection h with _ h; exact absurd h hF
 · split at h
   · injection h with _ h; exact absurd h hF
   · split at h
     · injection h with _ h; exact absurd h hT
     · rename_i h1 h2 h3
       injection h with h _
       exact ⟨h.symm, (mays_iff l).1 (by simpa using h2), by omega, by omega, by simpa using h3⟩
theorem print_parse {F T : Int} (hF : F ≠ 0) (hT : T ≠ 0) {l : List SM} {t : List UInt8} (h : printM F T l = (t, 0)) : parseM F T t = (l, 0) := by
 obtain ⟨rfl, h1, _⟩ := printM_ok hF hT h
 unfold parseM
 rw [linesM_text l h1 _ (Nat.lt_succ_self _)]
 dsimp only
 rw [if_pos (by rw [h])]
open Go Go.RowKit
theorem index_nl : ∀ s : List UInt8, Lib.index s [10] = match cutL s with | none => -1 | some p => (p.1.length : Int)
 | [] => by simp [Lib.index, cutL]
 | c :: s => by
   rw [Lib.index, cutL]
   by_cases hc : c = 10
   · subst hc
     rw [if_pos (by simp [List.isPrefixOf]), if_pos rfl]; rfl
   · rw [if_neg (by simp [List.isPrefixOf, Ne.symm hc]), if_neg hc, index_nl s]
     cases hs : cutL s with
     | none => simp
     | some p =>
       have hp : ¬ (((p.1.length : Int) == -1) = true) := by rw [beq_iff_eq]; omega
       show (if ((p.1.length : Int) == -1) = true then (-1 : Int) else (p.1.length : Int) + 1) = (((c :: p.1).length : Nat) : Int)
       rw [if_neg hp, List.length_cons]; omega
theorem cut_nl (s : List UInt8) : Lib.cut s [10] = match cutL s with | none => (s, [], false) | some p => (p.1, p.2, true) := by
 unfold Lib.cut
 rw [index_nl s]
 cases hs : cutL s with
 | none => simp
 | some p =>
   obtain ⟨a, b⟩ := p
   obtain ⟨e, _⟩ := cutL_some hs
   dsimp only
   rw [if_pos (Int.natCast_nonneg _), Int.toNat_natCast, e]
   simp
theorem index_blank : ∀ (a b : List UInt8), (∀ c ∈ a, c ≠ 32) → Lib.index (a ++ 32 :: 32 :: b) [32, 32] = (a.length : Int)
 | [], b, _ => by
   rw [List.nil_append, Lib.index, if_pos (by simp [List.isPrefixOf])]; rfl
 | c :: a, b, h => by
   have hc := h c List.mem_cons_self
   rw [List.cons_append, Lib.index, if_neg (by simp [List.isPrefixOf, Ne.symm hc]), index_blank a b (fun x hx => h x (List.mem_cons_of_mem _ hx))]
   rw [if_neg (by rw [beq_iff_eq]; omega), List.length_cons]; omega
theorem cut_blank (a b : List UInt8) (h : ∀ c ∈ a, c ≠ 32) : Lib.cut (a ++ 32 :: 32 :: b) [32, 32] = (a, b, true) := by
 unfold Lib.cut
 rw [index_blank a b h, if_pos (Int.natCast_nonneg _), Int.toNat_natCast]
 simp
theorem cut_parts {s sep a b : List UInt8} (h : Lib.cut s sep = (a, b, true)) : s = a ++ sep ++ b := by
 unfold Lib.cut at h
 rcases Lib.index_spec s sep with ⟨hi, _⟩ | ⟨i, hi, hl, ho, _⟩
 · rw [hi, if_neg (by omega)] at h; cases h
 · have hr := Lib.index_room s sep (by omega)
   rw [hi, if_pos (by omega), Int.toNat_natCast] at h
   rw [hi] at hr
   simp only [Prod.mk.injEq] at h
   obtain ⟨h1, h2, _⟩ := h
   have h3 := ho
   rw [Lib.occAt_iff_take s sep i (by omega), beq_iff_eq] at h3
   rw [← h1, ← h2]
   have e : s.drop (i + sep.length) = (s.drop i).drop sep.length := by rw [List.drop_drop]
   rw [e, List.append_assoc]
   conv => rhs; rw [show sep ++ List.drop sep.length (List.drop i s) = (s.drop i).take sep.length ++ List.drop sep.length (List.drop i s) by rw [h3]]
   rw [List.take_append_drop, List.take_append_drop]
def lineC (s : List UInt8) : Option SM :=
 match unhexL (Lib.cut s [32, 32]).1 with
 | none => none
 | some d => if (Lib.cut s [32, 32]).2.2 = true ∧ (SM.mk ⟨(Lib.cut s [32, 32]).2.1.toArray⟩ ⟨d.toArray⟩).may = true then some ⟨⟨(Lib.cut s [32, 32]).2.1.toArray⟩, ⟨d.toArray⟩⟩ else none
theorem lineC_head {x : SM} (h : x.May) : lineC x.head = some x := by
 have e : x.head = hexL x.sum.data.toList ++ 32 :: 32 :: x.name.data.toList := by unfold SM.head; simp
 unfold lineC
 rw [e, cut_blank _ _ (fun c hc => (hexL_no _ c hc).1)]
 dsimp only
 rw [unhex_hex]
 dsimp only
 have hx : (⟨⟨x.name.data.toList.toArray⟩, ⟨x.sum.data.toList.toArray⟩⟩ : SM) = x := by rw [SM.eq_iff]; exact ⟨by simp, by simp⟩
 rw [hx, if_pos ⟨rfl, (SM.may_iff x).2 h⟩]
theorem lineC_some {s : List UInt8} {x : SM} (h : lineC s = some x) : x.May ∧ x.head = s := by
 unfold lineC at h
 split at h
 · cases h
 · rename_i d hd
   split at h
   · rename_i hc
     injection h with h
     subst h
     refine ⟨(SM.may_iff _).1 hc.2, ?_⟩
     unfold SM.head
     have hp := cut_parts (s := s) (sep := [32, 32]) (a := (Lib.cut s [32, 32]).1) (b := (Lib.cut s [32, 32]).2.1) (by rw [← hc.1])
     show hexL d ++ [32, 32] ++ (Lib.cut s [32, 32]).2.1 = s
     rw [hex_unhex _ _ hd]; exact hp.symm
   · cases h
theorem lineC_eq (s : List UInt8) : lineC s = lineM s := by
 cases h1 : lineC s with
 | some x =>
   obtain ⟨hm, he⟩ := lineC_some h1
   rw [← he, lineM_head hm]
 | none =>
   cases h2 : lineM s with
   | none => rfl
   | some x =>
     obtain ⟨hm, he⟩ := lineM_some h2
     rw [← he, lineC_head hm] at h1; cases h1
open Go Go.RowKit
theorem linesM_fuel : ∀ (n m : Nat) (s : List UInt8), s.length < n → s.length < m → linesM n s = linesM m s
 | 0, _, _, h, _ => absurd h (Nat.not_lt_zero _)
 | _, 0, _, _, h => absurd h (Nat.not_lt_zero _)
 | n + 1, m + 1, s, h1, h2 => by
   rw [linesM, linesM]
   by_cases hs : s = []
   · rw [if_pos hs, if_pos hs]
   · rw [if_neg hs, if_neg hs]
     cases hc : cutL s with
     | none => rfl
     | some p =>
       obtain ⟨a, b⟩ := p
       have := cutL_len hc
       dsimp only
       cases lineM a with
       | none => rfl
       | some x => dsimp only; rw [linesM_fuel n m b (by omega) (by omega)]
def lns (s : List UInt8) : Option (List SM) := linesM (s.length + 1) s
theorem lns_nil : lns [] = some [] := by unfold lns; rw [linesM]; exact if_pos rfl
theorem lns_none {s : List UInt8} (hs : s ≠ []) (hc : cutL s = none) : lns s = none := by
 unfold lns; rw [linesM, if_neg hs, hc]
theorem lns_bad {s a b : List UInt8} (hc : cutL s = some (a, b)) (hl : lineM a = none) : lns s = none := by
 have hs : s ≠ [] := by intro h; subst h; cases hc
 unfold lns; rw [linesM, if_neg hs, hc]; dsimp only; rw [hl]
theorem lns_step {s a b : List UInt8} {x : SM} (hc : cutL s = some (a, b)) (hl : lineM a = some x) : lns s = (lns b).map (x :: ·) := by
 have hs : s ≠ [] := by intro h; subst h; cases hc
 have := cutL_len hc
 unfold lns; rw [linesM, if_neg hs, hc]; dsimp only; rw [hl]; dsimp only
 rw [linesM_fuel s.length (b.length + 1) b (by omega) (by omega)]
theorem parseM_eq (F T : Int) (s : List UInt8) : parseM F T s = match lns s with | none => ([], F) | some l => if (printM F T l).2 = 0 then (l, 0) else ([], (printM F T l).2) := rfl
def restM (F T : Int) (l : List SM) (s : List UInt8) : List SM × Int :=
 match lns s with
 | none => ([], F)
 | some r => if (printM F T (l ++ r)).2 = 0 then (l ++ r, 0) else ([], (printM F T (l ++ r)).2)
theorem restM_start (F T : Int) (s : List UInt8) : restM F T [] s = parseM F T s := by
 rw [parseM_eq]; rfl
theorem restM_end (F T : Int) (l : List SM) : restM F T l [] = if (printM F T l).2 = 0 then (l, 0) else ([], (printM F T l).2) := by
 unfold restM; rw [lns_nil]; dsimp only; rw [List.append_nil]
theorem restM_none {F T : Int} {l : List SM} {s : List UInt8} (hs : s ≠ []) (hc : cutL s = none) : restM F T l s = ([], F) := by
 unfold restM; rw [lns_none hs hc]
theorem restM_bad {F T : Int} {l : List SM} {s a b : List UInt8} (hc : cutL s = some (a, b)) (hl : lineM a = none) : restM F T l s = ([], F) := by
 unfold restM; rw [lns_bad hc hl]
theorem restM_step {F T : Int} {l : List SM} {s a b : List UInt8} {x : SM} (hc : cutL s = some (a, b)) (hl : lineM a = some x) : restM F T l s = restM F T (l ++ [x]) b := by
 unfold restM; rw [lns_step hc hl]
 cases lns b with
 | none => rfl
 | some r => simp
theorem printM_long (F T : Int) {l : List SM} (h : 16 < l.length) : printM F T l = ([], F) := by
 unfold printM; rw [if_pos (.inr h)]
theorem printM_none (F T : Int) : printM F T [] = ([], F) := by
 unfold printM; rw [if_pos (.inl (by simp))]
theorem restM_long {F T : Int} (hF : F ≠ 0) {l : List SM} {s : List UInt8} (h : 16 < l.length) : restM F T l s = ([], F) := by
 unfold restM
 cases lns s with
 | none => rfl
 | some r =>
   dsimp only
   rw [printM_long F T (show 16 < (l ++ r).length by rw [List.length_append]; omega), if_neg hF]
theorem once_snoc : ∀ (l : List SM) (x : SM), onceM (l ++ [x]) = (onceM l && l.all (fun y => decide (y.name ≠ x.name)))
 | [], x => by simp [onceM]
 | y :: l, x => by
   rw [List.cons_append, onceM, onceM, once_snoc l x, List.all_append, List.all_cons]
   have e : (decide (x.name ≠ y.name)) = decide (y.name ≠ x.name) := by
     rw [Bool.eq_iff_iff, decide_eq_true_iff, decide_eq_true_iff]; exact ⟨Ne.symm, Ne.symm⟩
   simp only [List.all_cons, List.all_nil, Bool.and_true]
   rw [e]
   cases (l.all fun z => decide (z.name ≠ y.name)) <;> cases onceM l <;> cases (l.all fun z => decide (z.name ≠ x.name)) <;> cases decide (y.name ≠ x.name) <;> rfl
theorem textM_snoc (l : List SM) (x : SM) : textM (l ++ [x]) = textM l ++ x.line := by
 unfold textM; simp
def namesM : List SM → Nat
 | [] => 0
 | x :: l => namesM l + (if l.any (fun y => decide (y.name = x.name)) then 0 else 1)
theorem any_not_all (l : List SM) (x : SM) : (l.any (fun y => decide (y.name = x.name))) = !(l.all (fun y => decide (y.name ≠ x.name))) := by
 rw [List.any_eq_not_all_not]
 congr 1; congr 1; funext y
 by_cases h : y.name = x.name <;> simp [h]
theorem names_le : ∀ l : List SM, namesM l ≤ l.length
 | [] => Nat.le_refl _
 | x :: l => by have := names_le l; rw [namesM, List.length_cons]; split <;> omega
def distM (l : List SM) : Nat := namesM l.reverse
theorem dist_snoc (l : List SM) (x : SM) : distM (l ++ [x]) = distM l + (if l.any (fun y => decide (y.name = x.name)) then 0 else 1) := by
 unfold distM
 rw [List.reverse_append, List.reverse_singleton, List.singleton_append, namesM, List.any_reverse]
theorem dist_le (l : List SM) : distM l ≤ l.length := by
 have := names_le l.reverse
 rwa [List.length_reverse] at this
theorem names_once_rev : ∀ r : List SM, namesM r = r.length ↔ onceM r.reverse = true
 | [] => by simp [namesM, onceM]
 | x :: r => by
   have h1 := names_once_rev r
   have h2 := names_le r
   rw [namesM, List.reverse_cons, once_snoc, List.length_cons, any_not_all, Bool.and_eq_true, List.all_reverse]
   cases (r.all fun y => decide (y.name ≠ x.name)) with
   | true =>
     rw [if_neg (by decide), ← h1]; constructor
     · intro h; exact ⟨by omega, rfl⟩
     · rintro ⟨h, _⟩; omega
   | false =>
     rw [if_pos (by decide)]
     constructor
     · intro h; omega
     · rintro ⟨_, h⟩; cases h
theorem dist_once (l : List SM) : distM l = l.length ↔ onceM l = true := by
 have := names_once_rev l.reverse
 rwa [List.length_reverse, List.reverse_reverse] at this
end Go.Proofs.YtafhncpaoolljaaGreat
