/- FlashBits. No condition. -/
import Derived.Test.YthdhgjndchmmbaaFlashL
import Derived.Test.YthdhgjndchmmbaaScript
import Derived.Deep.DeepCutAuto
import Derived.Deep.CutBlock
import Derived.IntWalk
namespace Go.Proofs.Ythdhgjndchmmbaa.flashBits
open Go Go.RowKit Go.ChangeShapes Go.WideShapes Go.ChangeAt
open Go.ChangeMaps (open_string shut_string)
set_option linter.unusedVariables false

theorem agg2 {cs : Array Value} {a b : Value} (h : cs.size = 2) (h0 : cs[0]? = some a) (h1 : cs[1]? = some b) : cs = #[a, b] := by
  obtain ⟨l⟩ := cs
  match l, h with
  | [x0, x1], _ => simp at h0 h1; simp_all
theorem open_w {H : Type} {enc : TypeId × Value → H} {w : World} {base : Nat} {spare : Nat → Bool} {held : Bool} {v : Value} {d : DataW H} {p : List MemPlace}
    (hv : Value.okWide Try.prog w .any base 54 v) (h : DataW.Trod enc Try.prog w 0 spare held 54 v d p) :
    ∃ im sl l, v = .agg #[.string im, sl] ∧ im.size ≤ maxLen ∧ Script w sl l := by
  obtain ⟨cs, rfl, hsz, hf⟩ := read_struct Try.underlying54 (by kernel_rfl) (by kernel_rfl) hv h
  obtain ⟨c0, e0, r0⟩ := hf 0 _ rfl
  obtain ⟨c1, e1, r1⟩ := hf 1 _ rfl
  obtain ⟨im, rfl, wim⟩ := r0.string Try.underlying9
  obtain ⟨l, hl⟩ := Script.of_reads Try.underlying52 Try.underlying40 (by kernel_rfl) (by kernel_rfl) rfl rfl rfl rfl rfl Try.underlying3 Try.underlying9 Try.underlying5 r1
  exact ⟨im, c1, l, by rw [agg2 hsz e0 e1], wim, hl⟩

/-- What a call of the script leaves. -/
def Aft (t : TypeId) (p bb cb : Nat) (s : FS) (AG : World → Prop) (f g : Value) (wx : World) : Prop :=
  ∃ (s' : FS) (A B : Nat), f = .int .i64 A ∧ g = .int .i64 B ∧ Bits s.b s'.b A B ∧ s'.Ok ∧ Fl t wx p bb cb s' ∧ AG wx ∧ B ≤ 131072
/-- The cells of the argument's block, the part of the call's own. -/
structure Arg (w wr : World) (im : ByteArray) (sl : Value) : Prop where
  g : wr.heap[w.heap.size]? = some (.cells #[.string im, sl] 54 (0, 0))
  b : Below w.heap.size w wr
theorem Arg.cells {w wr : World} {im : ByteArray} {sl : Value} (h : Arg w wr im sl) : wr.cell? ⟨w.heap.size, 1, none⟩ = some sl := by
  rw [cell_of_row _ _ _ _ _ _ h.g]; rfl
theorem Arg.upd {w wr w' : World} {im : ByteArray} {sl : Value} (h : Arg w wr im sl) {S : List Nat} (hu : Upd S wr w') (hS : ∀ i, i ∈ S → w.heap.size < i) : Arg w w' im sl := by
  have hl := (Array.getElem?_eq_some_iff.1 h.g).1
  exact ⟨(hu.block _ hl (fun hm => by have := hS _ hm; omega)).trans h.g, Upd.below h.b hu (fun i hi => by have := hS i hi; omega) h.b.size⟩

set_option maxRecDepth 100000 in
set_option maxHeartbeats 8000000 in
theorem walk (im : ByteArray) (sl : Value) (l : List OpR) (wi : im.size ≤ maxLen) (w : World) (hsc : Script w sl l) :
    Calls Try.prog 7 #[.agg #[.string im, sl]] w fun e w' => e = .returned (.bool true) ∧ Below w.heap.size w w' := by
  obtain ⟨r, hr, hrl, HFIT⟩ := fit_any im wi
  clear wi
  have HFIT := Box.mk HFIT; have HR := Box.mk hr; clear hr
  have SC := Box.mk hsc
  obtain ⟨n, hn⟩ : ∃ n, n = l.length := ⟨_, rfl⟩
  go_enter Try.func7, Try.ntmps7
  go_wp2_with fail
  refine (HFIT.out _).mono ?_
  rintro e w1 ⟨rfl, hb1⟩
  have hz1 := hb1.size
  simp only [World.size_alloc] at hz1
  have g1 : Arg w w1 im sl := ⟨by rw [hb1.block _ (by simp)]; exact heap_alloc_new _ _, ((Below.refl _ _).alloc (Nat.le_refl _) _).trans (hb1.mono (by simp))⟩
  have A1 := Box.mk g1
  clear hb1 g1
  go_wp2_with fail
  refine (open_yes r _ HR.out).mono ?_
  rintro e w2 ⟨p, bb, cb, rfl, hf, hp, hbb, hcb, hb2⟩
  have F0 := Box.mk hf
  have A2 := Box.mk (A1.out.upd (Upd.of_below (S := []) hb2) (by simp))
  have ok0 : (FS.new r.data.toList).Ok := FS.new_ok (by rw [Array.length_toList]; exact HR.out)
  have OK0 := Box.mk ok0
  clear hf hb2 A1 ok0
  go_wp2_with fail
  refine (image_any p bb cb _ _ F0.out).mono ?_
  rintro e w3 ⟨rfl, rfl⟩
  have c1 := A2.out.cells
  obtain ⟨ao, cap, rfl, hmax, hops⟩ := hsc
  have hlen : l.length ≤ 9223372036854775807 := by unfold maxLen at hmax; omega
  have hops := Box.mk hops
  go_wp2_with fail
  go_loopw [5, 6] (fun v i wr => ∃ (j : Nat) (s : FS), j ≤ l.length ∧ i = .int .i64 j ∧ v = .string ⟨s.b.toArray⟩ ∧ s.Ok ∧ Fl 63 wr p bb cb s ∧ Arg w wr im (.slice ao l.length cap)) (fun _ i _ => l.length - (intOf i).toNat)
  case atStart => exact ⟨0, _, by omega, rfl, rfl, OK0.out, F0.out, A2.out⟩
  case round =>
    obtain ⟨j, s, hj, rfl, rfl, ok, hf, ha⟩ := hrel
    have c1 := ha.cells
    by_cases hlt : j < l.length
    · obtain ⟨o, ho⟩ : ∃ o, l[j]? = some o := ⟨_, List.getElem?_eq_getElem hlt⟩
      have hltI : (j : Int) < (l.length : Int) := by omega
      obtain ⟨a, rfl, HO⟩ := hops.out j o ho
      have hox : OpAt wr (a.add (j * 5)) o := HO.below ha.b HO.lt
      obtain ⟨q0, q1, q2, q3, q4⟩ := hox.flat
      have AK : ∀ (S : List Nat) (w' : World), Upd S (wr.alloc (.cells #[.int .i64 o.k, .int .i64 o.a, .int .i64 o.n, .string o.s, .int .u8 (o.m.toNat : Int)] 40)) w' → (∀ i, i ∈ S → w.heap.size < i) → Arg w w' im (.slice (some a) l.length cap) :=
        fun S w' hu hS => (ha.upd ((Upd.refl S wr).alloc _)  hS).upd hu hS
      have FK : Fl 63 (wr.alloc (.cells #[.int .i64 o.k, .int .i64 o.a, .int .i64 o.n, .string o.s, .int .u8 (o.m.toNat : Int)] 40)) p bb cb s := hf.upd ((Upd.refl [] wr).alloc _) (by simp) (by simp) (by simp)
      have lt := hf.lt
      have AK := Box.mk AK; have FK := Box.mk FK; have OX := Box.mk HO.ok; have HA := Box.mk ha; have OK := Box.mk ok
      clear hox HO ha hf ok
      go_upto_block 2 with (fail)

      go_cut [8, 9] (fun f g wx => Aft 63 p bb cb s (fun wx => Arg w wx im (.slice (some a) l.length cap)) f g wx)
      case first =>
        go_wp2_with fail
        · -- Program
          refine (program_any p bb cb s o.a o.s _ FK.out OK.out OX.out.a OX.out.s).mono ?_
          rintro e w5 ⟨rfl, hf, hu⟩
          go_wp2_with fail
          go_meet
          exact ⟨_, 0, 0, rfl, rfl, FS.program_bits _ _ _, FS.program_ok OK.out _ _, hf, AK.out _ _ hu (by simp; omega), by omega⟩
        · -- Erase
          have HE := fun wx (h : Upd [] (wr.alloc (.cells #[.int .i64 o.k, .int .i64 o.a, .int .i64 o.n, .string o.s, .int .u8 (o.m.toNat : Int)] 40)) wx) => erase_any p bb cb s o.a wx (FK.out.upd h (by simp) (by simp) (by simp)) OK.out
          have HEB := FS.erase_bits s o.a
          have HEO := Box.mk (FS.erase_ok OK.out o.a)
          have HEN := FS.erase_n s o.a
          have HX := FS.erase_ans s o.a
          obtain ⟨q, hq⟩ : ∃ q, q = s.erase o.a := ⟨_, rfl⟩
          rw [← hq] at HEB HEO HEN HX
          simp only [← hq] at HE
          obtain ⟨x, hx⟩ : ∃ x, x = q.2 := ⟨_, rfl⟩
          rw [← hx] at HEB HX
          simp only [← hx] at HE
          have HE := Box.mk HE; have HEB := Box.mk HEB; have HEN := Box.mk HEN; have bfew := Box.mk OK.out.few
          clear hx hq
          rcases HX with rfl | hX
          · first
            | (go_region_with (first
                | (go_at_call 20; refine (HE.out _ (Upd.refl _ _).drew).mono ?_; rintro e w5 ⟨rfl, hf, hu⟩)))
            | fail
            all_goals
              go_wp2_with fail
              go_meet
              exact ⟨q.1, 0, 0, rfl, rfl, HEB.out.1 (by trivial), HEO.out, hf, AK.out _ _ ((Upd.refl _ _).drew.trans hu) (by simp; omega), by omega⟩
          · rcases hX with rfl | ⟨rfl, h2, h3⟩
            · by_cases h2 : 0 ≤ o.a
              · by_cases h3 : o.a < s.n.length
                · have h2' : decide (0 ≤ o.a) = true := by simpa using h2
                  have h3' : decide (o.a < (s.n.length : Int)) = true := by simpa using h3
                  obtain ⟨K, hK⟩ := Int.eq_ofNat_of_zero_le h2
                  have HK := Box.mk hK
                  have HR3 := Box.mk (And.intro h2 h3)
                  clear hK
                  first
                  | (go_region_with (first
                      | (go_at_call 20; refine (HE.out _ (Upd.refl _ _).drew).mono ?_; rintro e w5 ⟨rfl, hf, hu⟩; have q5 : w5.cell? ⟨wr.heap.size, 1, none⟩ = some (.int .i64 o.a) := (by rw [cell_of_row _ _ _ _ _ _ ((hu.block wr.heap.size (by simp) (by simp; omega)).trans (heap_alloc_new _ _))]; rfl); have HF5 := Box.mk hf; have HU5 := Box.mk hu; clear hf hu)
                      | (go_at_call 14; refine (blocks_any p bb cb q.1 _ HF5.out).mono ?_; rintro e w6 ⟨rfl, rfl⟩; rw [HEN.out])
                      ))
                  | fail
                  all_goals
                    go_wp2_with fail
                    go_meet
                    have hK' := HK.out
                    have hf3 := bfew.out
                    have h23 := HR3.out
                    refine ⟨q.1, 512 * K, 512 * K + 512, ?_, ?_, ?_, HEO.out, HF5.out, AK.out _ _ ((Upd.refl _ _).drew.trans HU5.out) (by simp; omega), by omega⟩
                    · rw [IntWalk.wrap64_in _ (by omega)]; exact int_congr (by omega)
                    · rw [IntWalk.wrap64_in (512 * o.a) (by omega), IntWalk.wrap64_in _ (by omega)]; exact int_congr (by omega)
                    · have := HEB.out.2.2 h23
                      rw [hK'] at this
                      exact this
                · have h2' : decide (0 ≤ o.a) = true := by simpa using h2
                  have h3' : decide (o.a < (s.n.length : Int)) = false := by simpa using h3
                  have H3 := Box.mk h3; clear h3
                  first
                  | (go_region_with (first
                      | (go_at_call 20; refine (HE.out _ (Upd.refl _ _).drew).mono ?_; rintro e w5 ⟨rfl, hf, hu⟩; have q5 : w5.cell? ⟨wr.heap.size, 1, none⟩ = some (.int .i64 o.a) := (by rw [cell_of_row _ _ _ _ _ _ ((hu.block wr.heap.size (by simp) (by simp; omega)).trans (heap_alloc_new _ _))]; rfl); have HF5 := Box.mk hf; have HU5 := Box.mk hu; clear hf hu)
                      | (go_at_call 14; refine (blocks_any p bb cb q.1 _ HF5.out).mono ?_; rintro e w6 ⟨rfl, rfl⟩; rw [HEN.out])
                      ))
                  | fail
                  all_goals
                    go_wp2_with fail
                    go_meet
                    exact ⟨q.1, 0, 0, rfl, rfl, HEB.out.2.1 (by have := H3.out; omega), HEO.out, HF5.out, AK.out _ _ ((Upd.refl _ _).drew.trans HU5.out) (by simp; omega), by omega⟩
              · have h2' : decide (0 ≤ o.a) = false := by simpa using h2
                have H2 := Box.mk h2; clear h2
                first
                | (go_region_with (first
                    | (go_at_call 20; refine (HE.out _ (Upd.refl _ _).drew).mono ?_; rintro e w5 ⟨rfl, hf, hu⟩; have q5 : w5.cell? ⟨wr.heap.size, 1, none⟩ = some (.int .i64 o.a) := (by rw [cell_of_row _ _ _ _ _ _ ((hu.block wr.heap.size (by simp) (by simp; omega)).trans (heap_alloc_new _ _))]; rfl); have HF5 := Box.mk hf; have HU5 := Box.mk hu; clear hf hu)
                    ))
                | fail
                all_goals
                  go_wp2_with fail
                  go_meet
                  exact ⟨q.1, 0, 0, rfl, rfl, HEB.out.2.1 (by have := H2.out; omega), HEO.out, HF5.out, AK.out _ _ ((Upd.refl _ _).drew.trans HU5.out) (by simp; omega), by omega⟩
            · have h2' : decide (0 ≤ o.a) = true := by simpa using h2
              have h3' : decide (o.a < (s.n.length : Int)) = true := by simpa using h3
              obtain ⟨K, hK⟩ := Int.eq_ofNat_of_zero_le h2
              have HK := Box.mk hK
              have HR3 := Box.mk (And.intro h2 h3)
              clear hK
              first
              | (go_region_with (first
                  | (go_at_call 20; refine (HE.out _ (Upd.refl _ _).drew).mono ?_; rintro e w5 ⟨rfl, hf, hu⟩; have q5 : w5.cell? ⟨wr.heap.size, 1, none⟩ = some (.int .i64 o.a) := (by rw [cell_of_row _ _ _ _ _ _ ((hu.block wr.heap.size (by simp) (by simp; omega)).trans (heap_alloc_new _ _))]; rfl); have HF5 := Box.mk hf; have HU5 := Box.mk hu; clear hf hu)
                  | (go_at_call 14; refine (blocks_any p bb cb q.1 _ HF5.out).mono ?_; rintro e w6 ⟨rfl, rfl⟩; rw [HEN.out])
                  ))
              | fail
              all_goals
                go_wp2_with fail
                go_meet
                have hK' := HK.out
                have hf3 := bfew.out
                have h23 := HR3.out
                refine ⟨q.1, 512 * K, 512 * K + 512, ?_, ?_, ?_, HEO.out, HF5.out, AK.out _ _ ((Upd.refl _ _).drew.trans HU5.out) (by simp; omega), by omega⟩
                · rw [IntWalk.wrap64_in _ (by omega)]; exact int_congr (by omega)
                · rw [IntWalk.wrap64_in (512 * o.a) (by omega), IntWalk.wrap64_in _ (by omega)]; exact int_congr (by omega)
                · have := HEB.out.2.2 h23
                  rw [hK'] at this
                  exact this
        · -- Arm
          refine (arm_any p bb cb s o.n o.a o.m _ FK.out OX.out.a).mono ?_
          rintro e w5 ⟨rfl, hf, hu⟩
          go_wp2_with fail
          go_meet
          exact ⟨_, 0, 0, rfl, rfl, by rw [FS.arm_b]; exact Bits.same _, FS.arm_ok OK.out _ _ _ OX.out.n.2 OX.out.a.2, hf, AK.out _ _ hu (by simp; omega), by omega⟩
        · -- Crash
          refine (crash_any p bb cb s _ FK.out).mono ?_
          rintro e w5 ⟨rfl, hf, hu⟩
          go_wp2_with fail
          go_meet
          exact ⟨_, 0, 0, rfl, rfl, by split <;> exact Bits.same _, by split; exact OK.out; exact ⟨by simp [FS.off], OK.out.keep, OK.out.len, OK.out.few⟩, hf, AK.out _ _ hu (by simp; omega), by omega⟩
        · -- Revive
          refine (revive_any p bb cb s _ FK.out).mono ?_
          rintro e w5 ⟨rfl, hf, hu⟩
          go_wp2_with fail
          go_meet
          exact ⟨s.back, 0, 0, rfl, rfl, Bits.same _, ⟨by simp [FS.back], OK.out.keep, OK.out.len, OK.out.few⟩, hf, AK.out _ _ hu (by simp; omega), by omega⟩
        · go_meet
          exact ⟨_, 0, 0, rfl, rfl, Bits.same _, OK.out, FK.out, AK.out _ _ (Upd.refl [] _) (by simp), by omega⟩
      case rest =>
        obtain ⟨s', A, B, rfl, rfl, hbits, ok', hf', ha', hB⟩ := hcut
        clear q0 q1 q2 q3 q4 AK FK OX HA
        obtain ⟨was, hwas⟩ : ∃ i : ByteArray, i = ⟨s.b.toArray⟩ := ⟨_, rfl⟩
        obtain ⟨now, hnow⟩ : ∃ i : ByteArray, i = ⟨s'.b.toArray⟩ := ⟨_, rfl⟩
        rw [← hwas]
        have HBS := Box.mk (hbits.str hwas hnow)
        have hsz := str_size OK.out hwas
        have hsz' : ((now.size : Int) != (was.size : Int)) = false := by rw [bne_eq_false_iff_eq]; have := HBS.out.1; omega
        have HI := fun w h => image_any p bb cb s' w h
        rw [← hnow] at HI
        have HI := Box.mk HI; have HN := Box.mk hnow; have F2 := Box.mk hf'; have A2 := Box.mk ha'; have OK2 := Box.mk ok'
        clear hwas hnow hf' ha' ok' hbits
        go_wp2_with fail
        refine (HI.out _ F2.out).mono ?_
        rintro e w5 ⟨rfl, rfl⟩
        go_wp2_with fail
        go_loopw [11] (fun i wx => ∃ k : Nat, k ≤ now.size ∧ i = .int .i64 k ∧ Upd [] wc wx) (fun i _ => now.size - (intOf i).toNat)
        case atStart => exact ⟨0, by omega, rfl, Upd.refl _ _⟩
        case round =>
          obtain ⟨k, hk, rfl, hu⟩ := hrel
          have HU := Box.mk hu; clear hu
          have hz := Box.mk HBS.out.1
          by_cases hlk : k < now.size
          · have g1 : k < was.size := by have := hz.out; omega
            have i1 : (k : Int) < (now.size : Int) := by omega
            have i2 : (k : Int) < (was.size : Int) := by omega
            obtain ⟨n1, n2⟩ := HBS.out.2 k g1 hlk
            by_cases hA : A ≤ k
            · have hA1 : decide (A ≤ k) = true := by simpa using hA
              have hA2 : decide ((A : Int) ≤ (k : Int)) = true := by simpa using hA
              by_cases hB1 : k < B
              · have hB2 : decide (k < B) = true := by simpa using hB1
                have hB3 : decide ((k : Int) < (B : Int)) = true := by simpa using hB1
                have f1 : bits .andNot .u8 (was[k].toNat : Int) (now[k].toNat : Int) = 0 := by rw [andNot_u8, n2 ⟨hA, hB1⟩]; rfl
                clear n1 n2
                go_wp2_with fail
                go_quiet (fail)
                go_wp2
                refine ⟨⟨k + 1, by omega, by go_num, HU.out.drewN _⟩, by simp [intOf]; omega⟩
              · have hB2 : decide (k < B) = false := by simpa using hB1
                have hB3 : decide ((k : Int) < (B : Int)) = false := by simpa using hB1
                have f1 : bits .andNot .u8 (now[k].toNat : Int) (was[k].toNat : Int) = 0 := by rw [andNot_u8, n1 (fun h => hB1 h.2)]; rfl
                clear n1 n2
                go_wp2_with fail
                go_quiet (fail)
                go_wp2
                refine ⟨⟨k + 1, by omega, by go_num, HU.out.drewN _⟩, by simp [intOf]; omega⟩
            · have hA1 : decide (A ≤ k) = false := by simpa using hA
              have hA2 : decide ((A : Int) ≤ (k : Int)) = false := by simpa using hA
              have f1 : bits .andNot .u8 (now[k].toNat : Int) (was[k].toNat : Int) = 0 := by rw [andNot_u8, n1 (fun h => hA h.1)]; rfl
              clear n1 n2
              go_wp2_with fail
              go_quiet (fail)
              go_wp2
              refine ⟨⟨k + 1, by omega, by go_num, HU.out.drewN _⟩, by simp [intOf]; omega⟩
          · obtain rfl : k = now.size := by omega
            go_wp2
            refine ⟨⟨j + 1, s', by omega, by go_num, by rw [HN.out], OK2.out, F2.out.upd HU.out (by simp) (by simp) (by simp), A2.out.upd HU.out (by simp)⟩, by simp [intOf]; omega⟩
    · obtain rfl : j = l.length := by omega
      go_wp2_with fail
      refine (fixed_any _).mono ?_
      rintro e w8 ⟨rfl, hb⟩
      go_wp2
      go_ret
      exact ⟨rfl, (ha.upd (Upd.of_below (S := []) hb) (by simp)).b⟩
theorem own : ownKnob Try.prog.godebug = none := by kernel_rfl
theorem laidOut : laidOutB Try.prog = true := by kernel_rfl
set_option maxRecDepth 100000 in
theorem lifted (os : Os) (started : os.Started) (H : Type) (enc : TypeId × Value → H) :
    ReturnsInHanded {} Try.checked os 7 .any (Rows.flashBitsSpec.pre6 enc Try.prog Try.f7 Rows.flashBitsRow.domain false) (Rows.flashBitsSpec.post enc Try.prog Try.f7 false true false false) := by
  refine returnsInHanded_of_change (C := Try.checked) own started (by kernel_rfl) Try.func7
    (ChangeSpec.witness6 (enc := enc) (C := Try.checked) false ⟨#[], #[.agg #[.string ⟨#[]⟩, .slice none 0 0]], []⟩ 8 (by kernel_rfl) (by kernel_rfl) (by kernel_rfl) (by kernel_rfl)) ?_
  intro W base args ds gs before hval0 hW hcnd _
  have hval : ∀ (j : Nat) t v, Try.f7.params[j]? = some t → args[j]? = some v → Value.okWide Try.prog W .any base t v := hval0
  have hW' := hW
  obtain ⟨p, q, hA0, hV, rfl, hfz, hnd⟩ := hW
  have hA : DataW.TrodAll enc Try.prog W 0 (fun _ => true) true Try.f7.params.toList args.toList ds p := hA0
  rw [Try.params7] at hA hval
  obtain ⟨v0, vs0, d0, ds0, p0, q0, hargs, rfl, rfl, h0, r0⟩ := trodAll_cons hA
  obtain ⟨rfl, rfl, rfl⟩ := trodAll_nil r0
  obtain rfl : args = #[v0] := by cases args; simp_all
  obtain ⟨rfl, rfl⟩ := trodVars_none hV
  obtain ⟨im0, sl0, l0, rfl, wi0, hsc0⟩ := open_w (hval 0 54 v0 rfl rfl) h0
  clear hA0 hval0
  refine (walk im0 sl0 l0 wi0 W hsc0).mono fun e W' ⟨he, bel⟩ => ?_
  subst he
  exact ⟨_, rfl, _, _, _, [], _, [], hW', trodAll_mk1 (shut_bool Try.underlying4 _), (trodAll_cons_mk (Below.trod laidOut (by kernel_rfl) (of_decide_eq_true (by kernel_rfl)) h0 bel (by obtain ⟨f, hf⟩ := h0; exact DataW.trod_lt _ _ _ _ hf)) trodAll_mk0), rfl, bel.frame _, fun h => by cases h⟩

theorem proved : Rows.FlashBitsSaid :=
  OpenClaim.holds_of_wide 7 Try.f7 rfl rfl rfl rfl rfl rfl rfl ⟨rfl, rfl, rfl, rfl, rfl⟩ rfl rfl rfl rfl rfl (by kernel_rfl) Try.func7 (by kernel_rfl)
    (of_decide_eq_true (by kernel_rfl)) (by unfold Func.isWrapper; first | (rw [if_pos (by decide +kernel)]; kernel_rfl) | (rw [if_neg (by decide +kernel)]; exact ⟨rfl, rfl⟩))
    (fun os started H enc _ => lifted os started H enc)
#print axioms proved
end Go.Proofs.Ythdhgjndchmmbaa.flashBits
