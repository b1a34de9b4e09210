/-
  NetRow: the walk.
-/
import Derived.Test.YtniiikgkeiomoaaTwin
namespace Go.Proofs.Ytniiikgkeiomoaa
open Go.RowKit Go.Maps

theorem Lie.of_below {base : Nat} {w0 w w' : World} {ts : List Thing} (h : Lie base w0 w ts) (hb : Below w.heap.size w w') : Lie base w0 w' ts := h.stay (Turn.of_below hb)
def okL (l : List Pk) : List Pk := l.filter fun p => decide (p.data.size ≤ 8192)
theorem take_snoc {α : Type} (l : List α) (k : Nat) (h : k < l.length) : l.take (k + 1) = l.take k ++ [l[k]] := List.take_succ_eq_append_getElem h
theorem okL_len (l : List Pk) : (okL l).length ≤ l.length := List.length_filter_le _ _
/-- The counting loop. -/
def Count (l : List Pk) (k : Nat) (n : Value) : Prop := n = .int .i64 (bytesOf (l.take k) : Nat)

theorem rd_pk {w : World} {A : Option Addr} {c : Nat} {l : List Pk} (h : Rd w 3 (.slice A l.length c) l.length (l.flatMap pkCells)) (k : Nat) (hk : k < l.length) :
    ∃ b o, A = some ⟨b, o, none⟩ ∧ b < w.heap.size ∧ w.cell? ⟨b, o + k * 3, none⟩ = some (.int .i64 l[k].from_) ∧ w.cell? ⟨b, o + k * 3 + 1, none⟩ = some (.int .i64 l[k].to_) ∧ w.cell? ⟨b, o + k * 3 + 2, none⟩ = some (.string l[k].data) := by
  obtain ⟨b, o, rfl, hb, hc⟩ := h.cells (by omega)
  obtain ⟨p0, p1, p2⟩ := pk_at l k hk
  have q1 := hc _ _ p1
  have q2 := hc _ _ p2
  rw [← Nat.add_assoc] at q1 q2
  exact ⟨b, o, rfl, hb, hc _ _ p0, q1, q2⟩
/-- While they are sent. -/
def RowInv (w : World) (nb : Nat) (l : List Pk) (k : Nat) (v : Value) (wr : World) : Prop :=
  Lie w.heap.size w wr [row w.heap.size 25 3 v (okL (l.take k)).length ((okL (l.take k)).flatMap pkCells), net w.heap.size (some nb) (okL (l.take k)) Cuts.none]
theorem Lie.nil_row {base : Nat} {w0 w : World} {ts : List Thing} (h : Lie base w0 w ts) (e : TypeId) (size : Nat) : Lie base w0 w (row base e size (.slice none 0 0) 0 [] :: ts) :=
  h.push (Turn.refl _ w) (World.ownsRow_nil _ _ _ _) (fun k hk => by cases hk)
theorem okL_snoc (l : List Pk) (p : Pk) : okL (l ++ [p]) = if p.data.size ≤ 8192 then okL l ++ [p] else okL l := by
  unfold okL
  rw [List.filter_append]
  by_cases h : p.data.size ≤ 8192 <;> simp [h]

/-- What is still on its way. -/
def restOf (last : Bool) (ss : List Pk) (i : Nat) : List Pk := if last then ss.take (ss.length - i) else ss.drop i
theorem at_zero (n : Nat) : at_ 0 n = 0 := by simp [at_]
theorem at_neg (n : Nat) (h : 0 < n) : at_ (-1) n = n - 1 := by
  unfold at_
  have : (-1 : Int) % (n : Int) = n - 1 := by
    rw [show (-1 : Int) = (n - 1) + n * (-1) by omega, Int.add_mul_emod_self_left, Int.emod_eq_of_lt (by omega) (by omega)]
  omega
theorem rest_first (ss : List Pk) (i : Nat) (h : i < ss.length) : comeOf Cuts.none (restOf false ss i) 0 = some ss[i] ∧ lostTo (restOf false ss i) 0 = restOf false ss (i + 1) := by
  have e : restOf false ss i = ss[i] :: restOf false ss (i + 1) := by simp [restOf]
  rw [e]
  unfold comeOf lostTo
  rw [at_zero]
  exact ⟨rfl, rfl⟩
theorem rest_last (ss : List Pk) (i : Nat) (h : i < ss.length) : comeOf Cuts.none (restOf true ss i) (-1) = some (ss[ss.length - 1 - i]'(by omega)) ∧ lostTo (restOf true ss i) (-1) = restOf true ss (i + 1) := by
  obtain ⟨m, hm⟩ : ∃ m, ss.length - i = m + 1 := ⟨ss.length - i - 1, by omega⟩
  have hm1 : m < ss.length := by omega
  have e : restOf true ss i = ss.take m ++ [ss[m]] := by
    unfold restOf
    rw [if_pos rfl, hm, take_snoc ss m hm1]
  have e2 : restOf true ss (i + 1) = ss.take m := by
    unfold restOf
    rw [if_pos rfl]
    congr 1
    omega
  have e3 : at_ (-1) (ss.take m ++ [ss[m]]).length = m := by
    rw [at_neg _ (by rw [List.length_append]; simp), List.length_append, List.length_take]
    simp
    omega
  have hl : (ss.take m).length = m := by rw [List.length_take]; omega
  rw [e, e2]
  unfold comeOf lostTo
  rw [e3]
  refine ⟨?_, ?_⟩
  · rw [List.getElem?_append_right (by omega), hl]
    simp [cutOf, Cuts.none, show ss.length - 1 - i = m by omega]
  · rw [List.eraseIdx_append_of_length_le (by omega), hl]
    simp
theorem rest_len (last : Bool) (ss : List Pk) (i : Nat) (_ : i ≤ ss.length) : (restOf last ss i).length = ss.length - i := by
  cases last <;> simp [restOf]
theorem told_some (p : Pk) : told (some p) = .tuple #[p.v, .bool true] := rfl
theorem told_none : told none = .tuple #[zeroPk, .bool false] := rfl
theorem rest_wait (last : Bool) (ss : List Pk) (k : Nat) (h : k < ss.length) : ((restOf last ss (k + 1)).length : Int) = (ss.length : Int) - 1 - k := by rw [rest_len _ _ _ h]; omega
def LastInv (w : World) (nb : Nat) (ss : List Pk) (last : Bool) (v : Value) (i : Nat) (wr : World) : Prop :=
  Lie w.heap.size w wr [row w.heap.size 25 3 v ss.length (ss.flatMap pkCells), net w.heap.size (some nb) (restOf last ss i) Cuts.none]

set_option maxHeartbeats 4000000 in
theorem row_any (vl : Value) (l : List Pk) (last : Bool) (w : World) (hl : Rd w 3 vl l.length (l.flatMap pkCells)) (hm : l.length ≤ maxLen) (hok : ∀ p ∈ l, p.ok ∧ p.data.size ≤ maxLen) :
    Calls Try.prog 3 #[vl, .bool last] w fun e w' => e = .returned (.bool true) ∧ Below w.heap.size w w' := by
  replace hm : l.length ≤ 9223372036854775807 := by unfold maxLen at hm; omega
  have HR := hide hl
  have HOK := hide hok
  obtain ⟨A, cA, rfl⟩ := hl.shape
  obtain ⟨i0, hi, hz0, hz1, hz2⟩ := info_parts info25
  clear hl hok
  go_enter Try.func3, Try.ntmps3
  go_wp2_with fail
  refine (awake_any w).mono ?_
  rintro e w0 ⟨rfl, hb0⟩
  have hs0 := hb0.size
  go_wp2_with fail
  go_loop [5, 6] (fun n i => ∃ k : Nat, k ≤ l.length ∧ k ≤ 301 ∧ i = .int .i64 k ∧ Count l k n) (fun _ i => l.length - (intOf i).toNat)
  case atStart => exact ⟨0, by omega, by omega, rfl, rfl⟩
  case round =>
    obtain ⟨k, hk, hk2, rfl, hn⟩ := hrel
    obtain ⟨s, hs⟩ : ∃ s : Nat, s = bytesOf (l.take k) := ⟨_, rfl⟩
    have hs2 : s ≤ 18060301 := by
      have := bytesOf_le (l.take k)
      simp only [List.length_take] at this
      omega
    rw [Count, ← hs] at hn
    subst hn
    by_cases hlt : k < l.length
    · by_cases h300 : k ≤ 300
      · obtain ⟨bl, ol, rfl, hbl, hcell⟩ := HR.out.cells (by omega)
        have c2 := (hb0.cell (p := ⟨bl, _, none⟩) hbl).trans (hcell _ _ (pk_at l k hlt).2.2)
        rw [← Nat.add_assoc] at c2
        have hmin := fun ts t w => run_min6 l[k].data.size ts t w
        have hcap := cap6_le l[k].data.size
        have HS := hide hs
        clear hcell hs
        go_wp2_with fail
        go_round
        case rel => exact ⟨k + 1, by omega, by omega, by go_num, by rw [Count, take_snoc l k hlt, bytesOf_snoc, ← HS.out]; go_num⟩
        case measure => simp [intOf]; omega
      · have hbig : 300 < l.length := by omega
        go_wp2_with fail
        go_ret
        exact ⟨rfl, hb0⟩
    · by_cases hbig : 300 < l.length
      · go_wp2_with fail
        go_ret
        exact ⟨rfl, hb0⟩
      · by_cases hby : 60000 < s
        · go_wp2_with fail
          go_ret
          exact ⟨rfl, hb0⟩
        · clear hs hs2
          go_wp2_with fail
          refine (new_any ((Lie.start w).of_below hb0)).mono ?_
          rintro e w1 ⟨rfl, s1⟩
          generalize w0.heap.size + 1 = nb at *
          unfold ptr
          have S1 : RowInv w nb l 0 (.slice none 0 0) w1 := s1.nil_row 25 3
          have h300 : l.length ≤ 300 := by omega
          clear hb0 hs0 s1 hbig hby hk2
          go_wp2_with fail
          go_loopw [8, 9] (fun v i wr => ∃ (k : Nat) (B : Option Addr) (d : Nat), k ≤ l.length ∧ i = .int .i64 k ∧ v = .slice B (okL (l.take k)).length d ∧ RowInv w nb l k (.slice B (okL (l.take k)).length d) wr) (fun _ i _ => l.length - (intOf i).toNat)
          case atStart => exact ⟨0, none, 0, by omega, rfl, rfl, S1⟩
          case round =>
            obtain ⟨k, B, d, hk, rfl, rfl, hS⟩ := hrel
            by_cases hlt : k < l.length
            · have HS := hide hS
              obtain ⟨bl, ol, rfl, hbl, q0, q1, q2⟩ := rd_pk (HR.out.below hS.below) k hlt
              have hpk := HOK.out _ (List.getElem_mem hlt)
              generalize hP : l[k] = P at *
              have HP := hide hP
              clear hS hP
              have hlen := okL_len (l.take k)
              rw [List.length_take] at hlen
              have hsm := hpk.2
              unfold maxLen at hsm
              go_wp2_with fail
              refine (send_any HS.out 1 (some nb) (okL (l.take k)) Cuts.none rfl P hpk.1).mono ?_
              rintro e w2 ⟨rfl, s2⟩
              have R2 := HR.out.below s2.below
              rw [← HP.out] at s2 ⊢
              obtain ⟨bl', ol', hbo, hbl2, r0, r1, r2⟩ := rd_pk R2 k hlt
              injection hbo with hbo
              injection hbo with e1 e2
              subst e1 e2
              by_cases hsz : l[k].data.size ≤ 8192
              · have ek : sendOk (some nb) (okL (l.take k)) l[k] = true := by simp [sendOk, hsz]; omega
                have et : sendTo (some nb) (okL (l.take k)) Cuts.none l[k] = okL (l.take (k + 1)) := by
                  rw [take_snoc l k hlt, okL_snoc, if_pos hsz]
                  unfold sendTo
                  rw [if_pos ⟨ek, rfl⟩]
                have et2 : okL (l.take (k + 1)) = okL (l.take k) ++ [l[k]] := by rw [take_snoc l k hlt, okL_snoc, if_pos hsz]
                rw [et] at s2
                simp only [List.set] at s2
                rw [ek]
                have hsz' : (l[k].data.size : Int) ≤ 8192 := by omega
                have S2 := hide s2
                have ET := hide et2
                clear s2 et et2 ek R2 hsz
                generalize hP : l[k] = P at *
                have HP := hide hP
                clear hP
                have OWN : Hid (w2.ownsRow w.heap.size 25 3 (.slice B (okL (l.take k)).length d) (okL (l.take k)).length ((okL (l.take k)).flatMap pkCells)) := S2.out.get 0 rfl
                have hbl3 := S2.out.base_le
                go_wp2_with (at_builtin; refine wpList_append1 rfl (.tmp 69) (.tmp 74) 22 rfl w.heap.size 25 i0 _ 3 32 Try.underlying22 hi hz0 hz1 hz2 rfl (by decide) (.slice B (okL (l.take k)).length d) _ _ (by simp [Act.eval]) OWN.out (pkCells P) (by simp [Act.eval]) rfl (pk_oneCell P) (by omega) (by omega) hbl3 ?_; intro v' w3 own' t' new'; obtain ⟨B', d', rfl⟩ := (Rd.of_own own').shape)
                go_roundw
                case rel =>
                  have e2 := ET.out
                  have e3 : (okL (l.take k)).length + 1 = (okL (l.take (k + 1))).length := by rw [e2]; simp
                  rw [e3] at own' new' ⊢
                  refine ⟨k + 1, B', d', by omega, by go_num, rfl, ?_⟩
                  exact S2.out.step 0 rfl (t' := row w.heap.size 25 3 (.slice B' (okL (l.take (k + 1))).length d') (okL (l.take (k + 1))).length ((okL (l.take (k + 1))).flatMap pkCells)) t' (by rw [e2] at own' ⊢; simpa [row] using own') (fun g hg => new' g hg)
                case measure => simp [intOf]; omega
              · have ek : sendOk (some nb) (okL (l.take k)) l[k] = false := by simp [sendOk, hsz]
                have et : sendTo (some nb) (okL (l.take k)) Cuts.none l[k] = okL (l.take (k + 1)) := by
                  rw [take_snoc l k hlt, okL_snoc, if_neg hsz]
                  unfold sendTo
                  rw [ek]
                  rfl
                have et2 : okL (l.take (k + 1)) = okL (l.take k) := by rw [take_snoc l k hlt, okL_snoc, if_neg hsz]
                rw [et] at s2
                simp only [List.set] at s2
                rw [ek]
                have hsz' : ¬ (l[k].data.size : Int) ≤ 8192 := by omega
                have S2 := hide s2
                have ET := hide et2
                clear s2 et et2 ek R2 hsz
                generalize hP : l[k] = P at *
                clear hP
                go_wp2_with fail
                go_roundw
                case rel =>
                  refine ⟨k + 1, B, d, by omega, by go_num, by rw [ET.out], ?_⟩
                  have := S2.out
                  unfold RowInv
                  rw [ET.out] at this ⊢
                  exact this
                case measure => simp [intOf]; omega
            · obtain rfl : k = l.length := by omega
              rw [List.take_length] at hS ⊢
              unfold RowInv at hS
              rw [List.take_length] at hS
              have hsl := okL_len l
              generalize okL l = ss at *
              have S0 : LastInv w nb ss last (.slice B ss.length d) 0 wr := by
                unfold LastInv restOf
                cases last <;> simpa using hS
              clear hS S1
              go_wp2_with fail
              obtain ⟨wo, rfl⟩ : ∃ wo : World, wo = wr := ⟨_, rfl⟩
              go_loopw [11] (fun i wr => ∃ k : Nat, k ≤ ss.length ∧ i = .int .i64 k ∧ LastInv w nb ss last (.slice B ss.length d) k wr) (fun i _ => ss.length - (intOf i).toNat)
              case atStart => exact ⟨0, by omega, rfl, S0⟩
              case round =>
                obtain ⟨k, hk, rfl, hS⟩ := hrel
                have HS := hide hS
                clear hS S0
                by_cases hlt : k < ss.length
                · cases last with
                  | false =>
                    go_wp2_with fail
                    obtain ⟨c1, c2⟩ := rest_first ss k hlt
                    refine (come_any HS.out 1 (some nb) (restOf false ss k) Cuts.none rfl 0 (by rw [rest_len _ _ _ hk]; omega)).mono ?_
                    rintro e w2 ⟨rfl, s2⟩
                    rw [c1, told_some]
                    rw [c2] at s2
                    simp only [List.set] at s2
                    have hz := s2.get 0 rfl
                    obtain ⟨b, o, rfl, hbl, q0, q1, q2⟩ := rd_pk (Rd.of_own hz) k hlt
                    have q0' := (World.cell?_alloc_lt _ (.cells #[.int .i64 ss[k].from_, .int .i64 ss[k].to_, .string ss[k].data] 25) _ hbl).trans q0
                    have q1' := (World.cell?_alloc_lt _ (.cells #[.int .i64 ss[k].from_, .int .i64 ss[k].to_, .string ss[k].data] 25) _ hbl).trans q1
                    have q2' := (World.cell?_alloc_lt _ (.cells #[.int .i64 ss[k].from_, .int .i64 ss[k].to_, .string ss[k].data] 25) _ hbl).trans q2
                    have S2 := hide s2
                    have hne := fun w => run_neq_pk_self ss[k] w
                    have hki : (k : Int) < (ss.length : Int) := by omega
                    clear c1 c2 s2 hz q0 q1 q2
                    generalize ss[k] = P at *
                    go_wp2_with fail
                    go_quiet ((go_at_call 14; exact (waiting_any (by exact (S2.out.skip _).drewN _) 1 (some nb) (restOf false ss (k + 1)) Cuts.none rfl).mono fun _ _ ⟨he, hw⟩ => ⟨by rw [he, rest_wait _ _ _ hlt], _, hw.symm⟩))
                    go_wp2_with fail
                    go_roundw
                    case rel => exact ⟨k + 1, by omega, by go_num, (S2.out.skip _).drewN _⟩
                    case measure => simp [intOf]; omega
                  | true =>
                    go_wp2_with fail
                    obtain ⟨c1, c2⟩ := rest_last ss k hlt
                    refine (come_any HS.out 1 (some nb) (restOf true ss k) Cuts.none rfl (-1) (by rw [rest_len _ _ _ hk]; omega)).mono ?_
                    rintro e w2 ⟨rfl, s2⟩
                    rw [c1, told_some]
                    rw [c2] at s2
                    simp only [List.set] at s2
                    have hz := s2.get 0 rfl
                    have hki : (0 : Int) ≤ (ss.length : Int) - 1 - (k : Int) := by omega
                    have hki2 : (ss.length : Int) - 1 - (k : Int) < (ss.length : Int) := by omega
                    have hjl : ss.length - 1 - k < ss.length := by omega
                    obtain ⟨b, o, rfl, hbl, q0, q1, q2⟩ := rd_pk (Rd.of_own hz) (ss.length - 1 - k) hjl
                    have q0' := (World.cell?_alloc_lt _ (.cells #[.int .i64 ss[ss.length - 1 - k].from_, .int .i64 ss[ss.length - 1 - k].to_, .string ss[ss.length - 1 - k].data] 25) _ hbl).trans q0
                    have q1' := (World.cell?_alloc_lt _ (.cells #[.int .i64 ss[ss.length - 1 - k].from_, .int .i64 ss[ss.length - 1 - k].to_, .string ss[ss.length - 1 - k].data] 25) _ hbl).trans q1
                    have q2' := (World.cell?_alloc_lt _ (.cells #[.int .i64 ss[ss.length - 1 - k].from_, .int .i64 ss[ss.length - 1 - k].to_, .string ss[ss.length - 1 - k].data] 25) _ hbl).trans q2
                    have S2 := hide s2
                    have hne := fun w => run_neq_pk_self ss[ss.length - 1 - k] w
                    clear c1 c2 s2 hz q0 q1 q2
                    generalize ss[ss.length - 1 - k] = P at *
                    go_wp2_with fail
                    go_quiet ((go_at_call 14; exact (waiting_any (by exact (S2.out.skip _).drewN _) 1 (some nb) (restOf true ss (k + 1)) Cuts.none rfl).mono fun _ _ ⟨he, hw⟩ => ⟨by rw [he, rest_wait _ _ _ hlt], _, hw.symm⟩))
                    go_wp2_with fail
                    go_roundw
                    case rel => exact ⟨k + 1, by omega, by go_num, (S2.out.skip _).drewN _⟩
                    case measure => simp [intOf]; omega
                · obtain rfl : k = ss.length := by omega
                  have he : restOf last ss ss.length = [] := List.eq_nil_of_length_eq_zero (by rw [rest_len _ _ _ (Nat.le_refl _)]; omega)
                  have s0 := HS.out
                  unfold LastInv at s0
                  rw [he] at s0
                  have HS0 := hide s0
                  clear s0 HS
                  go_wp2_with fail
                  refine (come_any HS0.out 1 (some nb) [] Cuts.none rfl 0 (by simp)).mono ?_
                  rintro e w2 ⟨rfl, s2⟩
                  rw [show comeOf Cuts.none [] 0 = none from rfl, told_none]
                  rw [show lostTo [] 0 = [] from rfl] at s2
                  simp only [List.set] at s2
                  have S2 := hide s2
                  clear s2
                  go_wp2_with fail
                  refine (lose_any (by exact S2.out.skip _) 1 (some nb) [] Cuts.none rfl 0 (by simp)).mono ?_
                  rintro e w3 ⟨rfl, s3⟩
                  rw [show lostTo [] 0 = [] from rfl] at s3
                  simp only [List.set] at s3
                  have S3 := hide s3
                  clear s3
                  rw [show (!([] : List Pk).isEmpty) = false from rfl]
                  go_wp2_with fail
                  refine (dup_any S3.out 1 (some nb) [] Cuts.none rfl 0 (by simp)).mono ?_
                  rintro e w4 ⟨rfl, s4⟩
                  have S4 := hide s4
                  clear s4
                  rw [show dupOk [] = false from rfl]
                  go_wp2_with fail
                  go_ret
                  exact ⟨rfl, S4.out.below⟩
end Go.Proofs.Ytniiikgkeiomoaa
