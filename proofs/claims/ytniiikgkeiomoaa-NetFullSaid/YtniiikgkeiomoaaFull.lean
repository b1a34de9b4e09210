/-
  NetFull: the walk.
-/
import Derived.Test.YtniiikgkeiomoaaWays
import Derived.Lib.SlBytesRow
import Derived.OwnWalk
namespace Go.Proofs.Ytniiikgkeiomoaa
open Go.RowKit Go.Maps

theorem info5 : (Try.prog.info? 5).map (fun i => (i.zero, i.size, i.bytes)) = some (some (.int .u8 0), 1, 1) := by kernel_rfl
/-- What make has laid, as bytes. -/
theorem made_bytes (n base b : Nat) (w : World) (own : w.ownsRow base 5 1 (.slice (some ⟨b, 0, none⟩) n n) n (madeCells (Value.int .u8 0).cells (n * 1)).toList) : ∃ s : ByteArray, s.size = n ∧ Lib.Bytes w b 0 s := by
  refine ⟨⟨Array.replicate n 0⟩, by simp [ByteArray.size], fun i hi => ?_⟩
  have hi' : i < n := by simpa [ByteArray.size] using hi
  have h := own.cells (g := b) rfl i (.int .u8 0) (by simp [madeCells, Value.cells, hi', Nat.mod_one])
  rw [add_mk] at h
  rw [h]
  congr 2
  have : (⟨Array.replicate n 0⟩ : ByteArray)[i] = (Array.replicate n (0 : UInt8))[i]'(by simpa using hi') := rfl
  rw [this]
  simp

/-- k packets of these two numbers. -/
def FullInv (w : World) (nb : Nat) (a b : Int) (k : Nat) (wr : World) : Prop :=
  ∃ ps : List Pk, ps.length = k ∧ (∀ p ∈ ps, p.from_ = a ∧ p.to_ = b) ∧ Lie w.heap.size w wr [net w.heap.size (some nb) ps Cuts.none]

set_option maxRecDepth 100000 in
set_option maxHeartbeats 4000000 in
theorem full_ok (a b i : Int) (w : World) (ha : (Lit.int .i64 a).wf = true) (hb : (Lit.int .i64 b).wf = true) (_ : (Lit.int .i64 i).wf = true) :
    Calls Try.prog 4 #[.int .i64 a, .int .i64 b, .int .i64 i] w fun e w' => e = .returned (.bool true) ∧ Below w.heap.size w w' := by
  obtain ⟨i0, hi0, hz0, hz1, hz2⟩ := info_parts info5

  go_enter Try.func4, Try.ntmps4
  go_wp2_with fail
  refine (awake_any w).mono ?_
  rintro e w0 ⟨rfl, hb0⟩
  go_wp2_with fail
  refine (new_any ((Lie.start w).of_below hb0)).mono ?_
  rintro e w1 ⟨rfl, s1⟩
  generalize w0.heap.size + 1 = nb at *
  unfold ptr
  clear hb0
  have S1 := hide s1
  have hb1 := s1.base_le
  clear s1
  go_wp2_with (refine wpList_make_full _ rfl (.const (.int .i64 8192)) (.const (.int .i64 8192)) 34 rfl w.heap.size 5 i0 (.int .u8 0) 1 Try.underlying34 hi0 hz0 hz1 .i64 .i64 8192 8192 8192 rfl rfl rfl rfl (by rw [hz2]; decide) (by decide) hb1 ?_; intro w2 own2 grow2; obtain ⟨s, hs, hbs⟩ := made_bytes 8192 _ _ w2 own2; have hcv := Lib.run_convert_whole (P := Try.prog) w2 34 5 9 Try.underlying34 Try.underlying5 Try.underlying9 w1.heap.size 0 s hbs 8192; rw [hs] at hcv; clear own2 hbs; have hlim : s.size + 1 ≤ 9223372036854775807 := (by omega); have HS := hide hs; clear hs)
  have s2 : Lie w.heap.size w w2 [net w.heap.size (some nb) [] Cuts.none] := S1.out.stay ((Turn.refl _ w1).grown grow2 (fun k _ hk => by cases hk))
  have big : (s ++ (⟨#[120]⟩ : ByteArray)).size = 8193 := by rw [ByteArray.size_append, HS.out]; rfl
  generalize s ++ (⟨#[120]⟩ : ByteArray) = sx at *
  have BIG := hide big
  have S2 := hide s2
  clear s2 big grow2 hcv hlim S1
  refine (send_any S2.out 0 (some nb) [] Cuts.none rfl ⟨a, b, sx⟩ ⟨ha, hb⟩).mono ?_
  rintro e w3 ⟨rfl, s3⟩
  have e3 : sendOk (some nb) [] ⟨a, b, sx⟩ = false := by unfold sendOk; simp only [BIG.out]; rfl
  have s3' : Lie w.heap.size w w3 [net w.heap.size (some nb) [] Cuts.none] := by
    have : sendTo (some nb) [] Cuts.none ⟨a, b, sx⟩ = [] := by unfold sendTo; rw [e3]; rfl
    rw [this] at s3
    exact s3
  rw [e3]
  have S3 := hide s3'
  clear s3 s3' e3 S2 BIG
  go_wp2_with fail
  refine (send_any S3.out 0 (some nb) [] Cuts.none rfl ⟨a, b, s⟩ ⟨ha, hb⟩).mono ?_
  rintro e w4 ⟨rfl, s4⟩
  have hss := HS.out
  rw [send_too _ _ _ _ (by simp only; omega) (by simp) rfl] at s4
  rw [send_okk _ _ _ (by simp only; omega) (by simp)]
  have F4 : FullInv w nb a b 1 w4 := ⟨_, rfl, by simp, s4⟩
  clear s4 hss S3 HS
  go_wp2_with fail
  go_loopw [9] (fun k wr => ∃ n : Nat, 1 ≤ n ∧ n ≤ 1024 ∧ k = .int .i64 n ∧ FullInv w nb a b n wr) (fun k _ => 1024 - (intOf k).toNat)
  case atStart => exact ⟨1, by omega, by omega, rfl, F4⟩
  case round =>
    obtain ⟨n, hn1, hn2, rfl, ps, hl, hab, hS⟩ := hrel
    have HS := hide hS
    have HAB := hide hab
    have HL := hide hl
    clear hS hab F4 hl
    by_cases hlt : n < 1024
    · by_cases hev : n % 2 = 0
      · have ev : (n : Int) % 2 = 0 := by omega
        have hp : Pk.ok ⟨a, b, ⟨#[]⟩⟩ := ⟨ha, hb⟩
        clear hev
        go_wp2_with fail
        refine (send_any HS.out 0 (some nb) ps Cuts.none rfl ⟨a, b, ⟨#[]⟩⟩ hp).mono ?_
        rintro e w5 ⟨rfl, s5⟩
        have hlt2 : ps.length < 1024 := by have := HL.out; omega
        rw [send_too nb ps Cuts.none ⟨a, b, ⟨#[]⟩⟩ (show (0 : Nat) ≤ 8192 by omega) hlt2 rfl] at s5
        rw [send_okk nb ps ⟨a, b, ⟨#[]⟩⟩ (show (0 : Nat) ≤ 8192 by omega) hlt2]
        have F5 : FullInv w nb a b (n + 1) w5 := ⟨_, by have := HL.out; simp [this], by
          intro q hq
          rcases List.mem_append.1 hq with h | h
          · exact HAB.out q h
          · simp at h; subst h; exact ⟨rfl, rfl⟩, s5⟩
        clear s5 HS
        go_wp2_with fail
        go_roundw
        case rel => exact ⟨n + 1, by omega, by omega, by go_num, F5⟩
        case measure => simp [intOf]; omega
      · have ev : (n : Int) % 2 = 1 := by omega
        clear hev
        go_wp2_with fail
        refine (dup_any HS.out 0 (some nb) ps Cuts.none rfl i (by have := HL.out; omega)).mono ?_
        rintro e w5 ⟨rfl, s5⟩
        have hok : dupOk ps = true := by unfold dupOk; rw [decide_eq_true_eq]; have := HL.out; omega
        rw [hok]
        have hat := at_lt i ps.length (by have := HL.out; omega)
        have F5 : FullInv w nb a b (n + 1) w5 := by
          have e : dupTo ps i = ps ++ [ps[at_ i ps.length]] := by
            unfold dupTo
            rw [if_pos hok, List.getElem?_eq_getElem hat]
            rfl
          rw [e] at s5
          refine ⟨_, by have := HL.out; simp [this], ?_, s5⟩
          intro q hq
          rcases List.mem_append.1 hq with h | h
          · exact HAB.out q h
          · simp only [List.mem_singleton] at h; subst h; exact HAB.out _ (List.getElem_mem hat)
        clear s5 HS hat hok
        go_wp2_with fail
        go_roundw
        case rel => exact ⟨n + 1, by omega, by omega, by go_num, F5⟩
        case measure => simp [intOf]; omega
    · obtain rfl : n = 1024 := by omega
      clear hlt hn1 hn2
      go_wp2_with fail
      refine (waiting_any HS.out 0 (some nb) ps Cuts.none rfl).mono ?_
      rintro e w' ⟨rfl, rfl⟩
      rw [HL.out]
      go_wp2_with fail
      have hp : Pk.ok ⟨a, b, ⟨#[]⟩⟩ := ⟨ha, hb⟩
      have no1 : sendOk (some nb) ps ⟨a, b, ⟨#[]⟩⟩ = false := by unfold sendOk; rw [HL.out]; rfl
      have no2 : dupOk ps = false := by unfold dupOk; rw [HL.out]; rfl
      have to1 : ∀ C, sendTo (some nb) ps C ⟨a, b, ⟨#[]⟩⟩ = ps := fun C => by unfold sendTo; rw [no1]; rfl
      have to2 : dupTo ps i = ps := by unfold dupTo; rw [no2]; rfl
      have hat := at_lt i ps.length (by have := HL.out; omega)
      have cuts : ∀ q : Pk, q.from_ = a ∧ q.to_ = b → cutOf (Cuts.none.set (lo b a) (hi b a) true) q = true := fun q hq => by rw [cutOf_set, if_pos (.inr hq)]
      have come : comeOf (Cuts.none.set (lo b a) (hi b a) true) ps i = none := by
        unfold comeOf
        rw [List.getElem?_eq_getElem hat]
        dsimp only
        rw [if_pos (cuts _ (HAB.out _ (List.getElem_mem hat)))]
      have left : (lostTo ps i).length = 1023 := by
        unfold lostTo
        rw [List.length_eraseIdx_of_lt hat, HL.out]
      have NO1 := hide no1
      have NO2 := hide no2
      have TO1 := hide to1
      have TO2 := hide to2
      have CUTS := hide cuts
      have COME := hide come
      have LEFT := hide left
      clear no1 no2 to1 to2 hat cuts come left
      refine (send_any HS.out 0 (some nb) ps Cuts.none rfl ⟨a, b, ⟨#[]⟩⟩ hp).mono ?_
      rintro e w5 ⟨rfl, s5⟩
      rw [TO1.out] at s5
      rw [NO1.out]
      have S5 := hide s5
      clear s5
      go_wp2_with fail
      refine (dup_any S5.out 0 (some nb) ps Cuts.none rfl i (by have := HL.out; omega)).mono ?_
      rintro e w6 ⟨rfl, s6⟩
      rw [TO2.out] at s6
      rw [NO2.out]
      have S6 := hide s6
      clear s6
      go_wp2_with fail
      refine (cut_any S6.out 0 (some nb) ps Cuts.none rfl b a true (by decide) hb ha).mono ?_
      rintro e w7 ⟨rfl, s7⟩
      have S7 := hide s7
      clear s7
      go_wp2_with fail
      refine (send_any S7.out 0 (some nb) ps (Cuts.none.set (lo b a) (hi b a) true) rfl ⟨a, b, ⟨#[]⟩⟩ hp).mono ?_
      rintro e w8 ⟨rfl, s8⟩
      rw [TO1.out] at s8
      rw [NO1.out]
      have S8 := hide s8
      clear s8
      go_wp2_with fail
      refine (come_any S8.out 0 (some nb) ps (Cuts.none.set (lo b a) (hi b a) true) rfl i (by have := HL.out; omega)).mono ?_
      rintro e w9 ⟨rfl, s9⟩
      rw [COME.out, told_none]
      generalize lostTo ps i = qs at *
      have S9 := hide s9
      clear s9
      go_wp2_with fail
      refine (waiting_any (by exact S9.out.skip _) 0 (some nb) qs (Cuts.none.set (lo b a) (hi b a) true) rfl).mono ?_
      rintro e w' ⟨rfl, rfl⟩
      rw [LEFT.out]
      go_wp2_with fail
      refine (send_any (by exact S9.out.skip _) 0 (some nb) qs (Cuts.none.set (lo b a) (hi b a) true) rfl ⟨a, b, ⟨#[]⟩⟩ hp).mono ?_
      rintro e w10 ⟨rfl, s10⟩
      rw [send_lost _ _ _ _ (CUTS.out _ ⟨rfl, rfl⟩)] at s10
      rw [send_okk nb qs ⟨a, b, ⟨#[]⟩⟩ (show (0 : Nat) ≤ 8192 by omega) (by have := LEFT.out; omega)]
      have S10 := hide s10
      clear s10
      go_wp2_with fail
      refine (waiting_any S10.out 0 (some nb) qs (Cuts.none.set (lo b a) (hi b a) true) rfl).mono ?_
      rintro e w' ⟨rfl, rfl⟩
      rw [LEFT.out]
      go_wp2_with fail
      go_ret
      exact ⟨rfl, S10.out.below⟩
end Go.Proofs.Ytniiikgkeiomoaa
