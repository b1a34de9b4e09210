/-
  The document's From: the pairs from a key on, rising.
-/
import Derived.Test.YtcaeechlpadboaaRef
namespace Go.Proofs.Ytcaeechlpadboaa
open Go.RowKit Go.Maps Go.Shelf

def lead (k : ByteArray) : List Pr → Nat
  | [] => 0
  | y :: r => if kc y.1 k < 0 then lead k r + 1 else 0
theorem lead_le (k : ByteArray) : ∀ m : List Pr, lead k m ≤ m.length
  | [] => Nat.le_refl _
  | y :: r => by
    unfold lead
    have := lead_le k r
    split
    · simp; omega
    · omega
theorem lead_lt (k : ByteArray) : ∀ (m : List Pr) (q : Nat) (hq : q < m.length), q < lead k m → kc (m[q]).1 k < 0
  | y :: r, 0, _, h => by
    unfold lead at h
    split at h
    · assumption
    · omega
  | y :: r, q + 1, hq, h => by
    unfold lead at h
    split at h
    · exact lead_lt k r q (by simpa using hq) (by omega)
    · omega
theorem lead_at (k : ByteArray) : ∀ (m : List Pr) (hq : lead k m < m.length), ¬ kc (m[lead k m]).1 k < 0
  | y :: r, hq => by
    by_cases h : kc y.1 k < 0
    · have e : lead k (y :: r) = lead k r + 1 := by rw [lead, if_pos h]
      simp only [e, List.getElem_cons_succ]
      exact lead_at k r (by rw [e] at hq; simpa using hq)
    · have e : lead k (y :: r) = 0 := by rw [lead, if_neg h]
      simp only [e, List.getElem_cons_zero]
      exact h
/-- Where a pair goes. -/
def ins (m : List Pr) (x : Pr) : List Pr := m.take (lead x.1 m) ++ x :: m.drop (lead x.1 m)
def refFrom (xs : List Pr) (key : ByteArray) : List Pr := xs.foldl (fun m x => if kc x.1 key < 0 then m else ins m x) []
theorem refFrom_snoc (xs : List Pr) (x : Pr) (key : ByteArray) : refFrom (xs ++ [x]) key = if kc x.1 key < 0 then refFrom xs key else ins (refFrom xs key) x := by simp [refFrom]
theorem ins_length (m : List Pr) (x : Pr) : (ins m x).length = m.length + 1 := by
  have := lead_le x.1 m
  unfold ins
  simp; omega
theorem refFrom_le (key : ByteArray) (xs : List Pr) (n : Nat) : (refFrom (xs.take n) key).length ≤ n := by
  induction n with
  | zero => simp [refFrom]
  | succ n ih =>
    by_cases h : n < xs.length
    · rw [List.take_succ_eq_append_getElem h, refFrom_snoc]
      split
      · omega
      · rw [ins_length]; omega
    · rw [List.take_of_length_le (by omega)]
      rw [List.take_of_length_le (by omega)] at ih
      omega
theorem ins_mem (m : List Pr) (x y : Pr) (h : y ∈ ins m x) : y = x ∨ y ∈ m := by
  unfold ins at h
  rcases List.mem_append.1 h with h | h
  · exact .inr (List.mem_of_mem_take h)
  · rcases List.mem_cons.1 h with h | h
    · exact .inl h
    · exact .inr (List.mem_of_mem_drop h)
theorem refFrom_mem (key : ByteArray) (xs : List Pr) (n : Nat) : ∀ y ∈ refFrom (xs.take n) key, y ∈ xs := by
  induction n with
  | zero => intro y h; simp [refFrom] at h
  | succ n ih =>
    intro y h
    by_cases hn : n < xs.length
    · rw [List.take_succ_eq_append_getElem hn, refFrom_snoc] at h
      split at h
      · exact ih y h
      · rcases ins_mem _ _ _ h with rfl | h
        · exact List.getElem_mem hn
        · exact ih y h
    · rw [List.take_of_length_le (by omega)] at h
      rw [List.take_of_length_le (by omega)] at ih
      exact ih y h
theorem pair_tail {w : World} {B g n c : Nat} {ys : List Value} (h : w.ownsRow B 25 2 (.slice (some ⟨g, 0, none⟩) n c) n ys) (q : Nat) (hq : q ≤ n) : Rd w 2 (.slice (if c = q then some ⟨g, 0, none⟩ else some ⟨g, q * 2, none⟩) (n - q) (c - q)) (n - q) (ys.drop (q * 2)) := by
  have hnc : n ≤ c := by
    rcases h.2 with ⟨h5, _⟩ | ⟨g', cap', cur, h5, _, _, h6, _⟩
    · cases h5
    · injection h5 with _ _ h7; omega
  refine ⟨by rw [List.length_drop, h.1]; omega, _, _, rfl, fun h => (by split at h <;> cases h), fun h0 => ?_⟩
  obtain ⟨b', o, hA, hb, hc⟩ := (Rd.of_own h).cells (by omega)
  injection hA with hA
  injection hA with hA ho
  subst hA ho
  refine ⟨g, q * 2, by rw [if_neg (by omega)], hb, fun j u hj => ?_⟩
  rw [List.getElem?_drop] at hj
  have := hc _ u hj
  rwa [Nat.zero_add] at this
theorem prs_take (xs : List Pr) (q : Nat) : (xs.take q).flatMap prc = (xs.flatMap prc).take (q * 2) := MS.cells_take xs q
theorem prs_drop (xs : List Pr) (q : Nat) : (xs.drop q).flatMap prc = (xs.flatMap prc).drop (q * 2) := MS.cells_drop xs q

theorem tail_keep {w wa wb : World} {sl va : Value} {m : Nat} {ys : List Value} (h : Rd w 2 sl m ys) (hb : ∀ g, sl.ownBlock = some g → g < w.heap.size) (ta : Turn (fun k => (Value.slice none 0 0).ownBlock = some k) w wa) (na : Newer w (.slice none 0 0) va) (tb : Turn (fun k => va.ownBlock = some k) wa wb) : Rd wb 2 sl m ys := by
  refine (h.turn ta (fun g _ _ h2 => by cases h2)).turn tb (fun g _ h1 h2 => ?_)
  have h3 := hb g h1
  rcases na g h2 with h4 | h4
  · cases h4
  · omega
/-- Three pieces make one row. -/
theorem from_step {w wq wa wb wc : World} {B L : Nat} {M : List Pr} {y : Pr} {va vb vc : Value} (_hB : B = w.heap.size) (h0 : Turn (fun _ => False) w wq) (hL : L = lead y.1 M) (hLM : L ≤ M.length)
    (ta : Turn (fun k => (Value.slice none 0 0).ownBlock = some k) wq wa) (na : Newer wq (.slice none 0 0) va) (tb : Turn (fun k => va.ownBlock = some k) wa wb) (nb : Newer wa va vb) (tc : Turn (fun k => vb.ownBlock = some k) wb wc)
    (oc : wc.ownsRow B 25 2 vc (0 + L + 1 + (M.length - L)) ((([] ++ (M.flatMap prc).take (L * 2)) ++ prc y) ++ (M.flatMap prc).drop (L * 2))) :
    wc.ownsRow B 25 2 vc (ins M y).length ((ins M y).flatMap prc) ∧ Turn (fun _ => False) w wc := by
  constructor
  · have e1 : (ins M y).flatMap prc = (([] ++ (M.flatMap prc).take (L * 2)) ++ prc y) ++ (M.flatMap prc).drop (L * 2) := by
      unfold ins
      rw [← hL, List.flatMap_append, List.flatMap_cons, prs_take, prs_drop]
      simp
    rw [ins_length, e1, show M.length + 1 = 0 + L + 1 + (M.length - L) by omega]
    exact oc
  · have s1 := h0.size
    have s2 := ta.size
    refine ((h0.step ta (fun k _ h => by cases h)).step tb (fun k hk h => ?_)).step tc (fun k hk h => ?_)
    · rcases na k h with h4 | h4
      · cases h4
      · omega
    · rcases nb k h with h4 | h4
      · rcases na k h4 with h5 | h5
        · cases h5
        · omega
      · omega

theorem own_len {w w' : World} {B n m c : Nat} {A : Option Addr} {l : Nat} {ys : List Value} {P : Nat → Prop} (h : w'.ownsRow B 25 2 (.slice A n c) l ys ∧ Turn P w w') (e : n = m) : w'.ownsRow B 25 2 (.slice A m c) l ys ∧ Turn P w w' := by subst e; exact h
set_option maxRecDepth 100000 in
set_option maxHeartbeats 8000000 in
theorem reffrom_any (xs : List Pr) (key : ByteArray) (v : Value) (w : World) (h : Rd w 2 v xs.length (xs.flatMap prc)) (hn : xs.length ≤ 1000) (hkey : key.size ≤ 1000000) (hsz : ∀ x ∈ xs, x.1.size ≤ 1000000) :
    Calls Try.prog 15 #[v, .string key] w fun e w' => ∃ v', e = .returned v' ∧ NewPrs w w.heap.size (refFrom xs key) v' w' := by
  obtain ⟨i0, hi0, hz0, hz1, hz2⟩ := info_parts info25
  obtain ⟨A, c, rfl⟩ := h.shape
  have H := hide h
  have HSZ := hide hsz
  obtain ⟨n, hnn⟩ : ∃ n, n = xs.length := ⟨_, rfl⟩
  have HN := hide hnn
  rw [← hnn] at hn
  clear h hnn hsz
  obtain ⟨B, hB⟩ : ∃ B, B = w.heap.size := ⟨_, rfl⟩
  rw [← hB]
  have HB := hide hB
  clear hB
  rw [← HN.out]
  go_enter Try.func15, Try.ntmps15
  go_wp2_with fail
  go_loopw [5, 6] (fun s i wr => ∃ q : Nat, q ≤ n ∧ i = .int .i64 q ∧ (∃ A' c', s = .slice A' (refFrom (xs.take q) key).length c') ∧ Hid (wr.ownsRow B 25 2 s (refFrom (xs.take q) key).length ((refFrom (xs.take q) key).flatMap prc) ∧ Turn (fun _ => False) w wr)) (fun _ i _ => n - (intOf i).toNat)
  case atStart => exact ⟨0, by omega, rfl, ⟨none, 0, rfl⟩, hide ⟨World.ownsRow_nil _ _ _ _, Turn.refl _ _⟩⟩
  case round =>
    obtain ⟨q, hq, rfl, ⟨A', c', rfl⟩, HI⟩ := hrel
    by_cases hlt : q < n
    · have hqx : q < xs.length := by have := HN.out; omega
      obtain ⟨b, o, rfl, hb, hc⟩ := pair_at xs H.out (by omega)
      obtain ⟨k1, k2⟩ := hc q hqx
      have t1 := HI.out.2
      have d1 := (t1.cell (p := ⟨b, o + q * 2, none⟩) hb (fun h => h)).trans k1
      have d2 := (t1.cell (p := ⟨b, o + q * 2 + 1, none⟩) hb (fun h => h)).trans k2
      have hsn := refFrom_snoc (xs.take q) xs[q] key
      rw [← List.take_succ_eq_append_getElem hqx] at hsn
      have hys := HSZ.out xs[q] (List.getElem_mem hqx)
      have hml := refFrom_le key xs q
      have hms : ∀ x ∈ refFrom (xs.take q) key, x.1.size ≤ 1000000 := fun x hx => HSZ.out x (refFrom_mem key xs q x hx)
      obtain ⟨y, hy⟩ : ∃ y, y = xs[q] := ⟨_, rfl⟩
      rw [← hy] at d1 d2 hsn hys
      generalize refFrom (xs.take q) key = M at *
      have HSN := hide hsn
      clear hc k1 k2 t1 hy hsn
      by_cases hl : kc y.1 key < 0
      · have hld := decide_eq_true hl
        have HSN2 : Hid (refFrom (xs.take (q + 1)) key = M) := hide (by rw [HSN.out, if_pos hl])
        have LQ := hide (less_q y.1 key hys hkey wr)
        rw [hld] at LQ
        clear hl hld HSN
        go_wp2_with fail
        refine LQ.out.mono ?_
        rintro e w1 ⟨rfl, m1, rfl⟩
        clear LQ
        go_wp2_with fail
        go_roundw
        case rel => exact ⟨q + 1, by omega, by go_num, by rw [HSN2.out]; exact ⟨A', c', rfl⟩, by rw [HSN2.out]; exact hide ⟨HI.out.1, HI.out.2.drewN _⟩⟩
        case measure => simp [intOf]; omega
      · have hld := decide_eq_false hl
        have HSN2 : Hid (refFrom (xs.take (q + 1)) key = ins M y) := hide (by rw [HSN.out, if_neg hl])
        have LQ := hide (less_q y.1 key hys hkey wr)
        rw [hld] at LQ
        clear hl hld HSN
        go_wp2_with fail
        refine LQ.out.mono ?_
        rintro e w1 ⟨rfl, m1, rfl⟩
        clear LQ
        go_wp2_with fail
        obtain ⟨wo, rfl⟩ : ∃ wo, wo = wr := ⟨_, rfl⟩
        obtain ⟨L, hL⟩ : ∃ L, L = lead y.1 M := ⟨_, rfl⟩
        have hLM : L ≤ M.length := by rw [hL]; exact lead_le y.1 M
        have HLL := hide hL
        have hbw : B ≤ wo.heap.size := by rw [HB.out]; exact HI.out.2.size
        have LQM : Hid (∀ (r : Nat) (hr : r < M.length) W, Calls Try.prog 53 #[.string (M[r]).1, .string y.1] W fun e w' => e = .returned (.bool (decide (kc (M[r]).1 y.1 < 0))) ∧ ∃ m, w' = W.drewN m) := hide (fun r hr W => less_q _ _ (hms _ (List.getElem_mem hr)) hys W)
        clear hL hms
        rcases HI.out.1.2 with ⟨hnil, h0⟩ | ⟨g, cap, cur, hsl, hBg, hblk, hcap⟩
        · injection hnil with e1 e2 e3
          obtain rfl : M = [] := List.eq_nil_of_length_eq_zero e2
          obtain rfl : L = 0 := HLL.out
          subst e1 e3
          clear e2 LQM
          go_loopw [7] (fun k wx => k = .int .i64 0 ∧ Hid (∃ d, wx = wo.drewN d)) (fun k _ => 0)
          case atStart => exact ⟨rfl, hide ⟨_, rfl⟩⟩
          case round =>
            obtain ⟨rfl, HD⟩ := hrel
            have dy : wr.cell? ⟨b, o + q * 2, none⟩ = some (.string y.1) := by obtain ⟨d, hd⟩ := HD.out; rw [hd]; exact d1
            go_wp2_with fail
            go_quiet (fail)
            obtain ⟨wq, hwq⟩ : ∃ wq, wq = wr.drewN nq := ⟨_, rfl⟩
            rw [← hwq]
            have HTQ : Hid (Turn (fun _ => False) w wq) := hide (by rw [hwq]; obtain ⟨d, hd⟩ := HD.out; rw [hd]; exact (HI.out.2.drewN _).drewN _)
            have hbq : B ≤ wq.heap.size := by rw [HB.out]; exact HTQ.out.size
            have hbq2 : b < wq.heap.size := Nat.lt_of_lt_of_le hb HTQ.out.size
            have dq : wq.cell? ⟨b, o + q * 2, none⟩ = some (.string y.1) := by rw [hwq]; obtain ⟨d, hd⟩ := HD.out; rw [hd]; exact d1
            have dq2 : wq.cell? ⟨b, o + q * 2 + 1, none⟩ = some (.string y.2) := by rw [hwq]; obtain ⟨d, hd⟩ := HD.out; rw [hd]; exact d2
            have OWQ : wq.ownsRow B 25 2 (.slice none 0 0) 0 [] := World.ownsRow_nil _ _ _ _
            have RDH := hide (Rd.of_own OWQ)
            have HTB : Hid (∀ g2, (Value.slice none 0 0).ownBlock = some g2 → g2 < wq.heap.size) := hide (fun g2 h => by cases h)
            have P1 : Hid (∀ u ∈ ([] : List Value), u.oneCell' = true) := hide (fun u hu => by cases hu)
            clear hwq OWQ
            go_wp2_with (first
              | (at_builtin; refine wpList_appendRd rfl (.tmp 41) (.tmp 44) 22 rfl B 25 i0 _ 2 32 Try.underlying22 hi0 hz0 hz1 hz2 rfl (by decide) (.slice none 0 0) 0 [] (by simp [Act.eval]) (World.ownsRow_nil _ _ _ _) (.slice none 0 0) 0 [] (by simp [Act.eval]) (by exact RDH.out) P1.out (by omega) (by decide) (by exact hbq) ?_; intro va wa oa ta na; obtain ⟨Aa, ca, rfl⟩ := (Rd.of_own oa).shape; have hsa := ta.size; have da := (ta.cell (p := ⟨b, o + q * 2, none⟩) hbq2 (fun h => by cases h)).trans dq; have da2 := (ta.cell (p := ⟨b, o + q * 2 + 1, none⟩) hbq2 (fun h => by cases h)).trans dq2)
              | (at_builtin; refine wpList_append1 rfl (.tmp 46) (.tmp 51) 22 rfl B 25 i0 _ 2 32 Try.underlying22 hi0 hz0 hz1 hz2 rfl (by decide) (.slice Aa (0 + 0) ca) (0 + 0) _ (by simp [Act.eval]) oa (prc y) (by simp [Act.eval]) rfl (prc_one _) (by omega) (by omega) (by omega) ?_; intro vb wb ob tb nb; obtain ⟨Ab, cb, rfl⟩ := (Rd.of_own ob).shape; have hsb := tb.size; have RDT2 := hide (tail_keep RDH.out HTB.out ta na tb))
              | (at_builtin; refine wpList_appendRd rfl (.tmp 53) (.tmp 56) 22 rfl B 25 i0 _ 2 32 Try.underlying22 hi0 hz0 hz1 hz2 rfl (by decide) (.slice Ab (0 + 0 + 1) cb) (0 + 0 + 1) _ (by simp [Act.eval]) ob (.slice none 0 0) 0 [] (by simp [Act.eval]) (by exact RDT2.out) P1.out (by omega) (by decide) (by omega) ?_; intro vc wc oc tc nc; obtain ⟨Ac, cc, rfl⟩ := (Rd.of_own oc).shape; have FIN := hide (from_step HB.out HTQ.out HLL.out (Nat.le_refl 0) ta na tb nb tc oc); clear oa ta na ob tb nb oc tc nc))
            go_roundw
            case rel => exact ⟨q + 1, by omega, by go_num, ⟨Ac, cc, by rw [HSN2.out, ins_length]; rfl⟩, hide (by rw [HSN2.out]; exact own_len FIN.out (by simp))⟩
            case measure => simp [intOf]; omega
        · injection hsl with e1 _ e3
          subst e1 e3
          have hMc := hcap.1
          clear hcap
          have hgw : g < wo.heap.size := box_lt hblk
          clear hblk
          have hcell : ∀ r (hr : r < M.length), wo.cell? ⟨g, r * 2, none⟩ = some (.string (M[r]).1) := fun r hr => (own_cell HI.out.1 (r * 2 + 0) (.string (M[r]).1) (by rw [flat_at prc_len M r 0 hr (by omega)]; rfl)).1
          have HCELL := hide hcell
          clear hcell
          go_loopw [7] (fun k wx => ∃ r : Nat, r ≤ L ∧ k = .int .i64 r ∧ Hid (∃ d, wx = wo.drewN d)) (fun k _ => L - (intOf k).toNat)
          case atStart => exact ⟨0, by omega, rfl, hide ⟨_, rfl⟩⟩
          case round =>
            obtain ⟨r, hr, rfl, HD⟩ := hrel
            by_cases hrl : r < L
            · have hrm : r < M.length := by omega
              have cM : wr.cell? ⟨g, r * 2, none⟩ = some (.string (M[r]).1) := by obtain ⟨d, hd⟩ := HD.out; rw [hd]; exact HCELL.out r hrm
              have dy : wr.cell? ⟨b, o + q * 2, none⟩ = some (.string y.1) := by obtain ⟨d, hd⟩ := HD.out; rw [hd]; exact d1
              have hcall := LQM.out r hrm
              rw [decide_eq_true (lead_lt y.1 M r hrm (by rw [← HLL.out]; exact hrl))] at hcall
              have HCALL := hide hcall
              generalize (M[r]).1 = mk at *
              clear hcall
              go_wp2_with fail
              go_quiet ((go_at_call 53; exact Calls.quiet_of (HCALL.out _)))
              go_wp2_with fail
              go_roundw
              case rel => exact ⟨r + 1, by omega, by go_num, hide (by obtain ⟨d, hd⟩ := HD.out; rw [hd]; exact ⟨_, World.drewN_drewN ..⟩)⟩
              case measure => simp [intOf]; omega
            · have hrL : r = L := by omega
              rw [hrL]
              clear hrL hrl hr
              have dy : wr.cell? ⟨b, o + q * 2, none⟩ = some (.string y.1) := by obtain ⟨d, hd⟩ := HD.out; rw [hd]; exact d1
              by_cases hLl : L < M.length
              · have cM : wr.cell? ⟨g, L * 2, none⟩ = some (.string (M[L]).1) := by obtain ⟨d, hd⟩ := HD.out; rw [hd]; exact HCELL.out L hLl
                have hcall := LQM.out L hLl
                rw [decide_eq_false (show ¬ kc (M[L]).1 y.1 < 0 by have h := lead_at y.1 M (by rw [← HLL.out]; exact hLl); simp only [← HLL.out] at h; exact h)] at hcall
                have HCALL := hide hcall
                generalize (M[L]).1 = mk at *
                clear hcall
                go_wp2_with fail
                go_quiet ((go_at_call 53; exact Calls.quiet_of (HCALL.out _)))
                obtain ⟨wq, hwq⟩ : ∃ wq, wq = wr.drewN nq := ⟨_, rfl⟩
                rw [← hwq]
                have OWQ : wq.ownsRow B 25 2 (.slice (some ⟨g, 0, none⟩) M.length c') M.length (M.flatMap prc) := by rw [hwq]; obtain ⟨d, hd⟩ := HD.out; rw [hd]; exact HI.out.1
                have HTQ : Hid (Turn (fun _ => False) w wq) := hide (by rw [hwq]; obtain ⟨d, hd⟩ := HD.out; rw [hd]; exact (HI.out.2.drewN _).drewN _)
                have hgq : g < wq.heap.size := by rw [hwq]; obtain ⟨d, hd⟩ := HD.out; rw [hd]; exact hgw
                have hbq : B ≤ wq.heap.size := by rw [HB.out]; exact HTQ.out.size
                have hbq2 : b < wq.heap.size := Nat.lt_of_lt_of_le hb HTQ.out.size
                have dq : wq.cell? ⟨b, o + q * 2, none⟩ = some (.string y.1) := by rw [hwq]; obtain ⟨d, hd⟩ := HD.out; rw [hd]; exact d1
                have dq2 : wq.cell? ⟨b, o + q * 2 + 1, none⟩ = some (.string y.2) := by rw [hwq]; obtain ⟨d, hd⟩ := HD.out; rw [hd]; exact d2
                have RDH := hide (rd_head OWQ L hLM)
                have RDT0 := pair_tail OWQ L hLM
                have hone : ∀ u ∈ M.flatMap prc, u.oneCell' = true := fun u hu => by obtain ⟨x, _, h⟩ := List.mem_flatMap.1 hu; exact prc_one x u h
                have P1 := hide (fun u (hu : u ∈ (M.flatMap prc).take (L * 2)) => hone u (List.mem_of_mem_take hu))
                have P2 := hide (fun u (hu : u ∈ (M.flatMap prc).drop (L * 2)) => hone u (List.mem_of_mem_drop hu))
                by_cases hcl : c' = L
                · exact absurd hcl (by omega)
                · rw [if_neg hcl] at RDT0
                  have RDT := hide RDT0
                  have HTB : Hid (∀ g2, (Value.slice (some ⟨g, L * 2, none⟩) (M.length - L) (c' - L)).ownBlock = some g2 → g2 < wq.heap.size) := hide (fun g2 h => by cases h; exact hgq)
                  clear hwq OWQ RDT0 hone
                  go_wp2_with (first
                    | (at_builtin; refine wpList_appendRd rfl (.tmp 41) (.tmp 44) 22 rfl B 25 i0 _ 2 32 Try.underlying22 hi0 hz0 hz1 hz2 rfl (by decide) (.slice none 0 0) 0 [] (by simp [Act.eval]) (World.ownsRow_nil _ _ _ _) (.slice (some ⟨g, 0, none⟩) L c') L ((M.flatMap prc).take (L * 2)) (by simp [Act.eval]) (by exact RDH.out) P1.out (by omega) (by decide) (by exact hbq) ?_; intro va wa oa ta na; obtain ⟨Aa, ca, rfl⟩ := (Rd.of_own oa).shape; have hsa := ta.size; have da := (ta.cell (p := ⟨b, o + q * 2, none⟩) hbq2 (fun h => by cases h)).trans dq; have da2 := (ta.cell (p := ⟨b, o + q * 2 + 1, none⟩) hbq2 (fun h => by cases h)).trans dq2)
                    | (at_builtin; refine wpList_append1 rfl (.tmp 46) (.tmp 51) 22 rfl B 25 i0 _ 2 32 Try.underlying22 hi0 hz0 hz1 hz2 rfl (by decide) (.slice Aa (0 + L) ca) (0 + L) _ (by simp [Act.eval]) oa (prc y) (by simp [Act.eval]) rfl (prc_one _) (by omega) (by omega) (by omega) ?_; intro vb wb ob tb nb; obtain ⟨Ab, cb, rfl⟩ := (Rd.of_own ob).shape; have hsb := tb.size; have RDT2 := hide (tail_keep RDT.out HTB.out ta na tb))
                    | (at_builtin; refine wpList_appendRd rfl (.tmp 53) (.tmp 56) 22 rfl B 25 i0 _ 2 32 Try.underlying22 hi0 hz0 hz1 hz2 rfl (by decide) (.slice Ab (0 + L + 1) cb) (0 + L + 1) _ (by simp [Act.eval]) ob (.slice (some ⟨g, L * 2, none⟩) (M.length - L) (c' - L)) (M.length - L) ((M.flatMap prc).drop (L * 2)) (by simp [Act.eval]) (by exact RDT2.out) P2.out (by omega) (by decide) (by omega) ?_; intro vc wc oc tc nc; obtain ⟨Ac, cc, rfl⟩ := (Rd.of_own oc).shape; have FIN := hide (from_step HB.out HTQ.out HLL.out hLM ta na tb nb tc oc); clear oa ta na ob tb nb oc tc nc))
                  go_roundw
                  case rel => exact ⟨q + 1, by omega, by go_num, ⟨Ac, cc, by rw [HSN2.out, ins_length]; congr 1; omega⟩, hide (by rw [HSN2.out]; exact own_len FIN.out (by omega))⟩
                  case measure => simp [intOf]; omega
              · go_wp2_with fail
                go_quiet (fail)
                obtain ⟨wq, hwq⟩ : ∃ wq, wq = wr.drewN nq := ⟨_, rfl⟩
                rw [← hwq]
                have OWQ : wq.ownsRow B 25 2 (.slice (some ⟨g, 0, none⟩) M.length c') M.length (M.flatMap prc) := by rw [hwq]; obtain ⟨d, hd⟩ := HD.out; rw [hd]; exact HI.out.1
                have HTQ : Hid (Turn (fun _ => False) w wq) := hide (by rw [hwq]; obtain ⟨d, hd⟩ := HD.out; rw [hd]; exact (HI.out.2.drewN _).drewN _)
                have hgq : g < wq.heap.size := by rw [hwq]; obtain ⟨d, hd⟩ := HD.out; rw [hd]; exact hgw
                have hbq : B ≤ wq.heap.size := by rw [HB.out]; exact HTQ.out.size
                have hbq2 : b < wq.heap.size := Nat.lt_of_lt_of_le hb HTQ.out.size
                have dq : wq.cell? ⟨b, o + q * 2, none⟩ = some (.string y.1) := by rw [hwq]; obtain ⟨d, hd⟩ := HD.out; rw [hd]; exact d1
                have dq2 : wq.cell? ⟨b, o + q * 2 + 1, none⟩ = some (.string y.2) := by rw [hwq]; obtain ⟨d, hd⟩ := HD.out; rw [hd]; exact d2
                have RDH := hide (rd_head OWQ L hLM)
                have RDT0 := pair_tail OWQ L hLM
                have hone : ∀ u ∈ M.flatMap prc, u.oneCell' = true := fun u hu => by obtain ⟨x, _, h⟩ := List.mem_flatMap.1 hu; exact prc_one x u h
                have P1 := hide (fun u (hu : u ∈ (M.flatMap prc).take (L * 2)) => hone u (List.mem_of_mem_take hu))
                have P2 := hide (fun u (hu : u ∈ (M.flatMap prc).drop (L * 2)) => hone u (List.mem_of_mem_drop hu))
                by_cases hcl : c' = L
                · obtain rfl : L = c' := hcl.symm
                  rw [if_pos rfl] at RDT0
                  have RDT := hide RDT0
                  have HTB : Hid (∀ g2, (Value.slice (some ⟨g, 0, none⟩) (M.length - L) (L - L)).ownBlock = some g2 → g2 < wq.heap.size) := hide (fun g2 h => by cases h; exact hgq)
                  clear hwq OWQ RDT0 hone
                  go_wp2_with (first
                    | (at_builtin; refine wpList_appendRd rfl (.tmp 41) (.tmp 44) 22 rfl B 25 i0 _ 2 32 Try.underlying22 hi0 hz0 hz1 hz2 rfl (by decide) (.slice none 0 0) 0 [] (by simp [Act.eval]) (World.ownsRow_nil _ _ _ _) (.slice (some ⟨g, 0, none⟩) L L) L ((M.flatMap prc).take (L * 2)) (by simp [Act.eval]) (by exact RDH.out) P1.out (by omega) (by decide) (by exact hbq) ?_; intro va wa oa ta na; obtain ⟨Aa, ca, rfl⟩ := (Rd.of_own oa).shape; have hsa := ta.size; have da := (ta.cell (p := ⟨b, o + q * 2, none⟩) hbq2 (fun h => by cases h)).trans dq; have da2 := (ta.cell (p := ⟨b, o + q * 2 + 1, none⟩) hbq2 (fun h => by cases h)).trans dq2)
                    | (at_builtin; refine wpList_append1 rfl (.tmp 46) (.tmp 51) 22 rfl B 25 i0 _ 2 32 Try.underlying22 hi0 hz0 hz1 hz2 rfl (by decide) (.slice Aa (0 + L) ca) (0 + L) _ (by simp [Act.eval]) oa (prc y) (by simp [Act.eval]) rfl (prc_one _) (by omega) (by omega) (by omega) ?_; intro vb wb ob tb nb; obtain ⟨Ab, cb, rfl⟩ := (Rd.of_own ob).shape; have hsb := tb.size; have RDT2 := hide (tail_keep RDT.out HTB.out ta na tb))
                    | (at_builtin; refine wpList_appendRd rfl (.tmp 53) (.tmp 56) 22 rfl B 25 i0 _ 2 32 Try.underlying22 hi0 hz0 hz1 hz2 rfl (by decide) (.slice Ab (0 + L + 1) cb) (0 + L + 1) _ (by simp [Act.eval]) ob (.slice (some ⟨g, 0, none⟩) (M.length - L) (L - L)) (M.length - L) ((M.flatMap prc).drop (L * 2)) (by simp [Act.eval]; omega) (by exact RDT2.out) P2.out (by omega) (by decide) (by omega) ?_; intro vc wc oc tc nc; obtain ⟨Ac, cc, rfl⟩ := (Rd.of_own oc).shape; have FIN := hide (from_step HB.out HTQ.out HLL.out hLM ta na tb nb tc oc); clear oa ta na ob tb nb oc tc nc))
                  go_roundw
                  case rel => exact ⟨q + 1, by omega, by go_num, ⟨Ac, cc, by rw [HSN2.out, ins_length]; congr 1; omega⟩, hide (by rw [HSN2.out]; exact own_len FIN.out (by omega))⟩
                  case measure => simp [intOf]; omega
                · rw [if_neg hcl] at RDT0
                  have RDT := hide RDT0
                  have HTB : Hid (∀ g2, (Value.slice (some ⟨g, L * 2, none⟩) (M.length - L) (c' - L)).ownBlock = some g2 → g2 < wq.heap.size) := hide (fun g2 h => by cases h; exact hgq)
                  clear hwq OWQ RDT0 hone
                  go_wp2_with (first
                    | (at_builtin; refine wpList_appendRd rfl (.tmp 41) (.tmp 44) 22 rfl B 25 i0 _ 2 32 Try.underlying22 hi0 hz0 hz1 hz2 rfl (by decide) (.slice none 0 0) 0 [] (by simp [Act.eval]) (World.ownsRow_nil _ _ _ _) (.slice (some ⟨g, 0, none⟩) L c') L ((M.flatMap prc).take (L * 2)) (by simp [Act.eval]) (by exact RDH.out) P1.out (by omega) (by decide) (by exact hbq) ?_; intro va wa oa ta na; obtain ⟨Aa, ca, rfl⟩ := (Rd.of_own oa).shape; have hsa := ta.size; have da := (ta.cell (p := ⟨b, o + q * 2, none⟩) hbq2 (fun h => by cases h)).trans dq; have da2 := (ta.cell (p := ⟨b, o + q * 2 + 1, none⟩) hbq2 (fun h => by cases h)).trans dq2)
                    | (at_builtin; refine wpList_append1 rfl (.tmp 46) (.tmp 51) 22 rfl B 25 i0 _ 2 32 Try.underlying22 hi0 hz0 hz1 hz2 rfl (by decide) (.slice Aa (0 + L) ca) (0 + L) _ (by simp [Act.eval]) oa (prc y) (by simp [Act.eval]) rfl (prc_one _) (by omega) (by omega) (by omega) ?_; intro vb wb ob tb nb; obtain ⟨Ab, cb, rfl⟩ := (Rd.of_own ob).shape; have hsb := tb.size; have RDT2 := hide (tail_keep RDT.out HTB.out ta na tb))
                    | (at_builtin; refine wpList_appendRd rfl (.tmp 53) (.tmp 56) 22 rfl B 25 i0 _ 2 32 Try.underlying22 hi0 hz0 hz1 hz2 rfl (by decide) (.slice Ab (0 + L + 1) cb) (0 + L + 1) _ (by simp [Act.eval]) ob (.slice (some ⟨g, L * 2, none⟩) (M.length - L) (c' - L)) (M.length - L) ((M.flatMap prc).drop (L * 2)) (by simp [Act.eval]) (by exact RDT2.out) P2.out (by omega) (by decide) (by omega) ?_; intro vc wc oc tc nc; obtain ⟨Ac, cc, rfl⟩ := (Rd.of_own oc).shape; have FIN := hide (from_step HB.out HTQ.out HLL.out hLM ta na tb nb tc oc); clear oa ta na ob tb nb oc tc nc))
                  go_roundw
                  case rel => exact ⟨q + 1, by omega, by go_num, ⟨Ac, cc, by rw [HSN2.out, ins_length]; congr 1; omega⟩, hide (by rw [HSN2.out]; exact own_len FIN.out (by omega))⟩
                  case measure => simp [intOf]; omega
    · obtain rfl : q = n := by omega
      have htk : xs.take q = xs := by rw [HN.out]; exact List.take_length
      rw [htk] at HI
      go_wp2_with fail
      go_ret
      exact ⟨.slice A' (refFrom xs key).length c', by rw [htk]; rfl, HI.out.1, HI.out.2⟩
end Go.Proofs.Ytcaeechlpadboaa
