/- SHA-2: the constants; New, Clone, Size. -/
import Derived.Test.YtafhncpaoolljaaGreatM09
import Derived.Deep.WholeRow
import Derived.Maps.RangeWalk
namespace Go.Proofs.YtafhncpaoolljaaGreat
set_option maxRecDepth 100000
set_option linter.unusedVariables false
open Go Go.RowKit Sha
def Hs32 (w : World) (p : Nat) (v O : V8) (r : ByteArray) (n : Int) : Prop := w.heap[p]? = some (.cells (hc32 0 v O r n) 115 (0, 0))
def Hs64 (w : World) (p : Nat) (v O : V8) (r : ByteArray) (n : Int) : Prop := w.heap[p]? = some (.cells (hc64 1 v O r n) 115 (0, 0))
theorem long32_any (p : Nat) (v O : V8) (r : ByteArray) (n : Int) (w : World) (h : Hs32 w p v O r n) :
   Calls Tryz.prog 85 #[.pointer (some ⟨p, 0, none⟩)] w fun e w' => e = .returned (.int .i64 64) ∧ w = w' := by
 have k0 := cell_of_row _ _ 0 _ _ _ h
 simp [hc32, hcells] at k0
 clear h
 go_enter Tryz.func85, Tryz.ntmps85
 go_wp2
 go_ret
 exact ⟨rfl, rfl⟩
theorem long64_any (p : Nat) (v O : V8) (r : ByteArray) (n : Int) (w : World) (h : Hs64 w p v O r n) :
   Calls Tryz.prog 85 #[.pointer (some ⟨p, 0, none⟩)] w fun e w' => e = .returned (.int .i64 128) ∧ w = w' := by
 have k0 := cell_of_row _ _ 0 _ _ _ h
 simp [hc64, hcells] at k0
 clear h
 go_enter Tryz.func85, Tryz.ntmps85
 go_wp2
 go_ret
 exact ⟨rfl, rfl⟩
theorem begins_any (w : World) : Calls Tryz.prog 82 #[] w fun e w' => e = .returned (.agg (v8c64 k512.h)) ∧ w' = w.alloc (.cells (v8c64 k512.h) 110) := by
 go_enter Tryz.func82, Tryz.ntmps82
 go_wp2
 go_returns
 exact ⟨rfl, rfl⟩
def z80 : Array Value := (List.replicate 80 (Value.int .u64 0)).toArray
def kcells : Array Value := (K.map u64v).toArray
set_option maxRecDepth 100000 in
set_option maxHeartbeats 1000000 in
theorem rounds_any (w : World) : Calls Tryz.prog 116 #[] w fun e w' => e = .returned (.agg kcells) ∧ w' = w.alloc (.cells kcells 144) := by
 have hz : ∀ w, (zeroValue 144).run Tryz.prog w = .ok (.agg z80) w := fun _ => by kernel_rfl
 have h1 : kcells.all (·.oneCell') = true := by kernel_rfl
 have hn := heap_alloc_new w (.cells z80 144)
 have H1 := Box.mk h1; have HN := Box.mk hn; clear h1 hn
 go_enter Tryz.func116, Tryz.ntmps116
 go_wp2_with (first
   | ((with_reducible refine wpList_built rfl 144 _ rfl kcells ?_ ?_); kernel_rfl)
   | ((with_reducible refine wpList_store_row rfl 144 (.tmp 0) (.tmp 1) rfl w.heap.size kcells ?_ ?_ 144 z80 HN.out ?_ ?_ H1.out ?_); rfl; rfl; kernel_rfl; rfl))
 rw [World.setRow_alloc_new]
 go_frame
 exact bodyPost_ret (results_cell_row (p := 0) (ty := 144) rfl _ _ w.heap.size 144 kcells (0, 0) _ rfl (heap_alloc_new _ _) Tryz.underlying144 rfl (by kernel_rfl)) rfl ⟨rfl, rfl⟩
def zV : V8 := ⟨0, 0, 0, 0, 0, 0, 0, 0⟩
def zha : Array Value := hcells 0 zV zV ⟨#[]⟩ 0
theorem shclone_any (p : Nat) (k : Int) (A B : V8) (r : ByteArray) (n : Int) (w : World) (h : w.heap[p]? = some (.cells (hcells k A B r n) 115 (0, 0))) :
   Calls Tryz.prog 84 #[.pointer (some ⟨p, 0, none⟩)] w fun e w' => e = .returned (.pointer (some ⟨w.heap.size, 0, none⟩)) ∧ w' = w.alloc (.cells (hcells k A B r n) 115) := by
 have hz : ∀ w, (zeroValue 115).run Tryz.prog w = .ok (.agg zha) w := fun _ => by kernel_rfl
 have h1 : (hcells k A B r n).all (·.oneCell') = true := by simp [hcells, u32v, u64v, Value.oneCell']
 have hn := heap_alloc_new w (.cells zha 115)
 have H1 := Box.mk h1; have HN := Box.mk hn; have H := Box.mk h; clear h1 hn h
 go_enter Tryz.func84, Tryz.ntmps84
 go_wp2_with (first
   | ((with_reducible refine wpList_load_row rfl 115 (.tmp 5) rfl p ?_ 115 (hcells k A B r n) (0, 0) _ H.out Tryz.underlying115 ?_ ?_ ?_); rfl; rfl; kernel_rfl)
   | ((with_reducible refine wpList_store_row rfl 115 (.tmp 3) (.tmp 6) rfl w.heap.size (hcells k A B r n) ?_ ?_ 115 zha HN.out ?_ ?_ H1.out ?_); rfl; rfl; kernel_rfl; rfl))
 rw [World.setRow_alloc_new]
 go_ret
 exact ⟨rfl, rfl⟩
def fillV (i : Nat) (v : V8) : V8 :=
 ⟨if 0 < i then v.a else 0, if 1 < i then v.b else 0, if 2 < i then v.c else 0, if 3 < i then v.d else 0, if 4 < i then v.e else 0, if 5 < i then v.f else 0, if 6 < i then v.g else 0, if 7 < i then v.h else 0⟩
theorem fill_set (i : Nat) (hi : i < 8) (k : Int) (v B : V8) (r : ByteArray) (n : Int) (x : Int) (hx : x = (v.list.getD i 0 : Nat)) :
   (hcells k (fillV i v) B r n).setIfInBounds (1 + i) (.int .u32 x) = hcells k (fillV (i + 1) v) B r n := by
 subst hx
 match i, hi with
 | 0, _ => rfl
 | 1, _ => rfl
 | 2, _ => rfl
 | 3, _ => rfl
 | 4, _ => rfl
 | 5, _ => rfl
 | 6, _ => rfl
 | 7, _ => rfl
theorem fill_is (i : Nat) (hi : i < 8) (k : Int) (v B : V8) (r : ByteArray) (n : Int) : ∃ u, (hcells k (fillV i v) B r n)[1 + i]? = some u := by
 match i, hi with
 | 0, _ => exact ⟨_, rfl⟩
 | 1, _ => exact ⟨_, rfl⟩
 | 2, _ => exact ⟨_, rfl⟩
 | 3, _ => exact ⟨_, rfl⟩
 | 4, _ => exact ⟨_, rfl⟩
 | 5, _ => exact ⟨_, rfl⟩
 | 6, _ => exact ⟨_, rfl⟩
 | 7, _ => exact ⟨_, rfl⟩
theorem half_begin (i : Nat) (hi : i < 8) : k512.h.list.getD i 0 / 4294967296 = k256.h.list.getD i 0 ∧ k512.h.list.getD i 0 < 18446744073709551616 := by
 match i, hi with
 | 0, _ => decide
 | 1, _ => decide
 | 2, _ => decide
 | 3, _ => decide
 | 4, _ => decide
 | 5, _ => decide
 | 6, _ => decide
 | 7, _ => decide
set_option maxHeartbeats 1000000 in
theorem new_loop (k : Int) (w : World) (h : k = 0 ∨ k = 1) : Calls Tryz.prog 43 #[.int .i64 k] w fun e w' => ∃ p, e = .returned (.tuple #[.pointer (some ⟨p, 0, none⟩), .int .i64 0]) ∧ w.heap.size ≤ p ∧
   w'.heap[p]? = some (.cells (hcells k k256.h k512.h ⟨#[]⟩ 0) 115 (0, 0)) ∧ Below w.heap.size w w' := by
 have hb := begins_any
 have hix := idx64 110 rfl k512.h
 have HIX := Box.mk hix; clear hix
 have hst : ∀ W : World, (W.alloc (.cells (hcells k zV k512.h ⟨#[]⟩ 0) 115)).heap[W.heap.size]? = some (.cells (hcells k (fillV 0 k256.h) k512.h ⟨#[]⟩ 0) 115 (0, 0)) := fun W => heap_alloc_new _ _
 have HST := Box.mk hst; clear hst
 unfold v8c64 u64v at hb
 have HHB := Box.mk half_begin
 generalize k512.h = B at hb HIX HST HHB
 rcases h with rfl | rfl
 all_goals
   go_enter Tryz.func43, Tryz.ntmps43
   go_wp2_with ((with_reducible refine (hb _).mono ?_); rintro e w' ⟨rfl, rfl⟩)
   clear hb
   go_loopw [21] (fun c wr => ∃ i : Nat, i ≤ 8 ∧ c = .int .i64 i ∧ wr.heap[w.heap.size + 1]? = some (.cells (hcells _ (fillV i k256.h) B ⟨#[]⟩ 0) 115 (0, 0)) ∧ Below w.heap.size w wr) (fun c _ => (8 - intOf c).toNat)
   case atStart => exact ⟨0, by omega, rfl, by have := HST.out (w.alloc (.cells (v8c64 B) 110)); rw [World.size_alloc] at this; exact this, by go_grown⟩
   case round =>
     obtain ⟨i, hi, rfl, hg, hbel⟩ := hrel
     by_cases hlt : i < 8
     · have hix := HIX.out i hlt
       unfold v8c64 u64v at hix
       have hhb := HHB.out i hlt
       generalize B.list.getD i 0 = x at hix hhb
       have hiI : (i : Int) < 8 := by omega
       obtain ⟨u, hu⟩ := fill_is i hlt _ k256.h B ⟨#[]⟩ 0
       have ca : wr.cell? ⟨w.heap.size + 1, 1 + i, none⟩ = some u := (cell_of_row _ _ _ _ _ _ hg).trans hu
       have fa : wr.frozen? ⟨w.heap.size + 1, 1 + i, none⟩ = false := frozen_of_row _ _ _ _ _ hg
       have HG := Box.mk hg; have HB := Box.mk hbel; have HX := Box.mk hhb
       clear hg hbel hhb hu
       go_wp2
       refine ⟨⟨i + 1, by omega, by go_num, ?_, HB.out.setCell (by simp) _⟩, by simp [intOf]; omega⟩
       rw [heap_setCell_same _ _ _ _ _ _ HG.out, fill_set i hlt _ _ _ _ _ _ (by have := HX.out; omega)]
     · obtain rfl : i = 8 := by omega
       have HG := Box.mk hg; have HB := Box.mk hbel
       clear hg hbel
       go_wp2
       go_ret2
       exact ⟨_, rfl, by omega, HG.out, HB.out⟩
end Go.Proofs.YtafhncpaoolljaaGreat
