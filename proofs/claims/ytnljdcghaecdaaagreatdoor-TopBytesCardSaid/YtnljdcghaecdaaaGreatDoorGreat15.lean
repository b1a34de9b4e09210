/-
  Schemas, types, values that are great.
-/
import Derived.Test.YtnljdcghaecdaaaGreatDoorGreat13
namespace Go.Proofs.YtnljdcghaecdaaaGreatDoor
open Go.RowKit Go.Lib
attribute [local go_sem] Oper.semAt_some

structure GAll (s : SchD) (ts : List SortD) (ns : List NodeD) : Prop where
  sch : GSch s
  nt : ts.length ≤ 300
  nn : ns.length ≤ 6000
  ts : ∀ t ∈ ts, GSort t
  ns : ∀ x ∈ ns, x.text.size ≤ 6000
set_option maxRecDepth 100000 in
set_option maxHeartbeats 8000000 in
theorem great15_any (s : SchD) (tv nv : Value) (ts : List SortD) (ns : List NodeD) (w : World) (h : SchAt w s) (ht : SortsAt w tv ts) (hn : NodesAt w nv ns) : Calls Tryz.prog 4 #[schv s, tv, nv] w (NoB (GAll s ts ns) w) := by
  have C1 := hide (fun (w' : World) (t : Turn (fun _ => False) w w') => great13_any s w' (h.on t))
  have GS : Hid (GSch s → ts.length ≤ 300 → ns.length ≤ 6000 → (∀ t ∈ ts, GSort t) → (∀ x ∈ ns, x.text.size ≤ 6000) → GAll s ts ns) := hide (fun a b c d e => ⟨a, b, c, d, e⟩)
  generalize GAll s ts ns = G at *
  generalize GSch s = G0 at *
  obtain ⟨name, rs, rv, vs, vv, gs, gv⟩ := s
  have HT := hide ht
  have HNS := hide hn
  clear h ht hn
  obtain ⟨At, ct, rfl⟩ := HT.out.1.shape
  obtain ⟨An, cn, rfl⟩ := HNS.out.shape
  obtain ⟨p, hpp⟩ : ∃ p, p = ts.length := ⟨_, rfl⟩
  obtain ⟨q, hqq⟩ : ∃ p, p = ns.length := ⟨_, rfl⟩
  rw [← hpp, ← hqq]
  rw [← hpp, ← hqq] at GS
  have HP := hide hpp
  have HQ := hide hqq
  unfold schv at C1 ⊢
  simp only at C1 ⊢
  obtain ⟨w1, hw1⟩ : ∃ w1, w1 = w.alloc (.cells #[.string name, rv, vv, gv] 26) := ⟨_, rfl⟩
  have T1 : Hid (Turn (fun _ => False) w w1) := hide (by rw [hw1]; exact (Turn.refl _ w).alloc _)
  have HW := hide hw1
  clear hw1 hpp hqq
  go_enter Tryz.func4, Tryz.ntmps4
  go_wp2_with fail
  rw [← HW.out]
  refine (C1.out w1 T1.out).mono ?_
  rintro e w2 ⟨bv, rfl, hv, T2⟩
  have T3 := hide (T1.out.trans T2)
  clear C1 T1 T2 HW
  cases bv with
  | true =>
    go_wp2_with fail
    go_ret
    exact ⟨_, rfl, (fun e => by cases e), T3.out⟩
  | false =>
    have GS2 := hide (GS.out (hv rfl))
    clear hv GS
    by_cases b1 : p ≤ 300
    · by_cases b2 : q ≤ 6000
      · go_wp2_with fail
        go_loopw [7] (fun s7 wr => ∃ k : Nat, k ≤ p ∧ s7 = .int .i64 k ∧ Hid (wr = w2) ∧ Hid (∀ t (ht : t < ts.length), t < k → GSort ts[t])) (fun s7 _ => p - (intOf s7).toNat)
        case atStart => exact ⟨0, by omega, rfl, hide rfl, hide (fun t _ h => by omega)⟩
        case round =>
          obtain ⟨i, hi, rfl, HY, HIY⟩ := hrel
          have hy := HY.out
          subst hy
          by_cases hli : i < p
          · have hiy : i < ts.length := by have := HP.out; omega
            obtain ⟨b'', o'', rfl, hb'', hny, hcy⟩ := sort_at (A := At) (c := ct) (n := ts.length) ts (HT.out.on T3.out) (by omega)
            obtain ⟨k0, k1⟩ := hcy i hiy
            clear hcy hny k0
            obtain ⟨⟨sk, sn⟩, hsd⟩ : ∃ v, v = ts[i] := ⟨_, rfl⟩
            have HSD := hide hsd
            rw [← hsd] at k1
            clear hsd
            simp only at k1
            by_cases z1 : sn.size ≤ 200
            · go_wp2_with fail
              go_roundw
              case rel => exact ⟨i + 1, by omega, by go_num, hide trivial, hide (all_next HIY.out hiy (by rw [← HSD.out]; exact z1))⟩
              case measure => simp [intOf]; omega
            · go_wp2_with fail
              go_ret
              exact ⟨_, rfl, (fun e => by cases e), T3.out⟩
          · obtain rfl : i = p := by omega
            have GS3 := hide (GS2.out b1 b2 (all_of HP.out HIY.out))
            clear GS2 HIY
            go_wp2_with fail
            go_loopw [8] (fun s7 wz => ∃ k : Nat, k ≤ q ∧ s7 = .int .i64 k ∧ Hid (wz = wr) ∧ Hid (∀ t (ht : t < ns.length), t < k → (ns[t]).text.size ≤ 6000)) (fun s7 _ => q - (intOf s7).toNat)
            case atStart => exact ⟨0, by omega, rfl, hide rfl, hide (fun t _ h => by omega)⟩
            case round =>
              obtain ⟨j, hj, rfl, HZ, HIZ⟩ := hrel
              have hz := HZ.out
              subst hz
              by_cases hlj : j < q
              · have hjy : j < ns.length := by have := HQ.out; omega
                obtain ⟨b', o', rfl, hb', hnx, hcx⟩ := node_at (A := An) (c := cn) (n := ns.length) ns (HNS.out.on T3.out) (by omega)
                obtain ⟨k0, k1, k2, k3⟩ := hcx j hjy
                clear hcx hnx k0 k1 k3
                obtain ⟨⟨sk, si, sn, sd⟩, hsd⟩ : ∃ v, v = ns[j] := ⟨_, rfl⟩
                have HSD := hide hsd
                rw [← hsd] at k2
                clear hsd
                simp only at k2
                by_cases z1 : sn.size ≤ 6000
                · go_wp2_with fail
                  go_roundw
                  case rel => exact ⟨j + 1, by omega, by go_num, hide trivial, hide (all_next (P := fun x : NodeD => x.text.size ≤ 6000) HIZ.out hjy (by rw [← HSD.out]; exact z1))⟩
                  case measure => simp [intOf]; omega
                · go_wp2_with fail
                  go_ret
                  exact ⟨_, rfl, (fun e => by cases e), T3.out⟩
              · obtain rfl : j = q := by omega
                go_wp2_with fail
                go_ret
                exact ⟨_, rfl, fun _ => GS3.out (all_of (P := fun x : NodeD => x.text.size ≤ 6000) HQ.out HIZ.out), T3.out⟩
      · go_wp2_with fail
        go_ret
        exact ⟨_, rfl, (fun e => by cases e), T3.out⟩
    · go_wp2_with fail
      go_ret
      exact ⟨_, rfl, (fun e => by cases e), T3.out⟩
end Go.Proofs.YtnljdcghaecdaaaGreatDoor
