/- SHA-2: the constants; New, Clone, Size. -/
import Derived.Test.YtjednaendedpdaaGreatM18
import Derived.Deep.WholeRow
import Derived.Maps.RangeWalk
namespace Go.Proofs.YtjednaendedpdaaGreat
set_option maxRecDepth 100000
set_option linter.unusedVariables false
open Go Go.RowKit Sha

def z80 : Array Value := (List.replicate 80 (Value.int .u64 0)).toArray
def kcells : Array Value := (K.map u64v).toArray
def zV : V8 := ⟨0, 0, 0, 0, 0, 0, 0, 0⟩
def zha : Array Value := hcells 0 zV zV ⟨#[]⟩ 0
/-- The first i words laid. -/
def fillV (i : Nat) (v : V8) : V8 :=
  ⟨if 0 < i then v.a else 0, if 1 < i then v.b else 0, if 2 < i then v.c else 0, if 3 < i then v.d else 0, if 4 < i then v.e else 0, if 5 < i then v.f else 0, if 6 < i then v.g else 0, if 7 < i then v.h else 0⟩
theorem fill_set (i : Nat) (hi : i < 8) (k : Int) (v B : V8) (r : ByteArray) (n : Int) (x : Int) (hx : x = (v.list.getD i 0 : Nat)) :
    (hcells k (fillV i v) B r n).setIfInBounds (1 + i) (.int .u32 x) = hcells k (fillV (i + 1) v) B r n := by
  subst hx
  match i, hi with
  | 0, _ => rfl
  | 1, _ => rfl
  | 2, _ => rfl
  | 3, _ => rfl
  | 4, _ => rfl
  | 5, _ => rfl
  | 6, _ => rfl
  | 7, _ => rfl
theorem fill_is (i : Nat) (hi : i < 8) (k : Int) (v B : V8) (r : ByteArray) (n : Int) : ∃ u, (hcells k (fillV i v) B r n)[1 + i]? = some u := by
  match i, hi with
  | 0, _ => exact ⟨_, rfl⟩
  | 1, _ => exact ⟨_, rfl⟩
  | 2, _ => exact ⟨_, rfl⟩
  | 3, _ => exact ⟨_, rfl⟩
  | 4, _ => exact ⟨_, rfl⟩
  | 5, _ => exact ⟨_, rfl⟩
  | 6, _ => exact ⟨_, rfl⟩
  | 7, _ => exact ⟨_, rfl⟩
theorem half_begin (i : Nat) (hi : i < 8) : k512.h.list.getD i 0 / 4294967296 = k256.h.list.getD i 0 ∧ k512.h.list.getD i 0 < 18446744073709551616 := by
  match i, hi with
  | 0, _ => decide
  | 1, _ => decide
  | 2, _ => decide
  | 3, _ => decide
  | 4, _ => decide
  | 5, _ => decide
  | 6, _ => decide
  | 7, _ => decide
end Go.Proofs.YtjednaendedpdaaGreat
