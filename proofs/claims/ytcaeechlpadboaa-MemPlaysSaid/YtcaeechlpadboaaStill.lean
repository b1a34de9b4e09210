/-
  MemStill: the walk.
-/
import Derived.Test.YtcaeechlpadboaaOthers2
import Derived.Maps.OwnIn
namespace Go.Proofs.Ytcaeechlpadboaa
open Go.RowKit Go.Maps Go.Shelf
attribute [local go_sem] Oper.semAt_some
open MI

/-- 'append(s, x)' in a round. -/
theorem wpListIn_append1 {F : Fence} {nF : Nat} {P : Program} {w : World} {ops : Array Oper} {rest : List Oper} {o : Oper} {a : Act} {Q : Exit → Act → World → Prop} (hgd : o.guard = none) (s x : Operand) (t : TypeId)
    (ho : o.op = .call { callee := .builtin .append, args := #[s, x], argTypes := #[t, t] })
    (base : Nat) (e : TypeId) (i : TypeInfo) (z : Value) (size bytes : Nat) (ht : P.underlying t = some (.slice e)) (hi : P.info? e = some i) (hz : i.zero = some z)
    (hsize : i.size = size) (hby : i.bytes = bytes) (hzs : z.cells.size = size) (hsz : 0 < size)
    (v : Value) (n : Nat) (xs : List Value) (hs : a.eval s = v) (hown : w.ownsRow base e size v n xs)
    (ys : List Value) (hx : a.eval x = .slice (some ⟨w.heap.size, 0, none⟩) 1 1) (hl : ys.length = size) (h1 : ∀ u ∈ ys, u.oneCell' = true)
    (h63 : n + 1 ≤ 1000000) (hb2 : bytes ≤ 1000) (hbase : base ≤ w.heap.size)
    (h : ∀ v' w', w'.ownsRow base e size v' (n + 1) (xs ++ ys) → Turn (fun k => v.ownBlock = some k) w w' → Newer w v v' → wpListIn F nF P ops Q rest (a.put o.dst v') w') :
    wpListIn F nF P ops Q (o :: rest) a (w.alloc (.cells ys.toArray e)) := by
  refine wpListIn_append_own_at _ hgd s x t ho base e i z size bytes ht hi hz hsize hby hzs hsz v n xs hs (hown.alloc _) ⟨w.heap.size, 0, none⟩ 1 1 ys hx (by omega) (cells_new w ys e) h1 (by unfold maxLen; omega)
    (Nat.le_trans (Nat.mul_le_mul h63 hb2) (by omega)) (by simp; omega) ?_
  intro v' w' ho' hg' _ hat
  refine h v' w' ho' ?_ ?_
  · exact ((Turn.refl _ w).alloc _).grown hg' (fun k _ hk => hk)
  · intro g hg
    rcases hat with h2 | h2
    · exact .inl (h2 ▸ hg)
    · rw [h2] at hg
      simp at hg
      exact .inr (by omega)
theorem Lie.sel {base : Nat} {w0 w : World} {ts us : List Thing} (h : Lie base w0 w ts) (ix : List Nat) (hnd : ix.Nodup) (hu : us.map some = ix.map (fun i => ts[i]?)) : Lie base w0 w us := by
  have hl : us.length = ix.length := by simpa using congrArg List.length hu
  refine h.pick (fun i => ix.getD i 0) (fun i j hi hj e => ?_) (fun i u hi => ?_)
  · rw [hl] at hi hj
    rw [List.getD_eq_getElem?_getD, List.getD_eq_getElem?_getD, List.getElem?_eq_getElem hi, List.getElem?_eq_getElem hj] at e
    exact (List.getElem_inj hnd).1 e
  · have hil : i < us.length := (List.getElem?_eq_some_iff.1 hi).1
    have h1 := congrArg (fun l => l[i]?) hu
    simp only [List.getElem?_map, hi, Option.map_some, List.getElem?_eq_getElem (show i < ix.length by omega)] at h1
    rw [List.getD_eq_getElem?_getD, List.getElem?_eq_getElem (show i < ix.length by omega)]
    exact (Option.some.inj h1).symm
section
variable {base : Nat} {w0 w : World} {ts : List Thing}
theorem mem_at {t : Thing} (h : t ∈ ts) : ∃ i : Nat, ts[i]? = some t := by
  obtain ⟨i, hi, e⟩ := List.getElem_of_mem h
  exact ⟨i, by rw [List.getElem?_eq_getElem hi, e]⟩
/-- Get, wherever the table lies. -/
theorem get_in {T n : Nat} {v : Value} {lent : Bool} {xs : List MI.Ent} (key : ByteArray) (o : MI.Ok xs n) (hn : n ≤ 99999) (hb : box T (mobj v lent) ∈ ts) (hr : rw_ base v xs ∈ ts) (h : Lie base w0 w ts) :
    Calls Try.prog 18 #[pt T, .string key] w (TL (.tuple #[vv (MI.get xs key).1, .bool (MI.get xs key).2]) base w0 ts) := by
  obtain ⟨j, hj⟩ := mem_at hb
  obtain ⟨k, hk⟩ := mem_at hr
  exact get_any key ⟨hj, hk, o.hs, by have := o.hn; omega⟩ h
/-- A table that somebody goes over, or one that has parted from what is gone over. -/
def Mst (base T : Nat) (v : Value) (xs : List MI.Ent) (n : Nat) (R js : List Thing) : Prop :=
  js = tb base T v true xs ++ R ∨ ∃ v' xm, MI.Ok xm n ∧ js = tb base T v' false xm ++ (rw_ base v xs :: R)
theorem Mst.row {base T n : Nat} {v : Value} {xs : List MI.Ent} {R js : List Thing} (h : Mst base T v xs n R js) : rw_ base v xs ∈ js := by
  rcases h with rfl | ⟨v', xm, _, rfl⟩
  · exact .head _
  · exact .tail _ (.tail _ (.head _))
theorem Mst.rest {base T n : Nat} {v : Value} {xs : List MI.Ent} {R js : List Thing} {t : Thing} (h : Mst base T v xs n R js) (ht : t ∈ R) : t ∈ js := by
  rcases h with rfl | ⟨v', xm, _, rfl⟩
  · exact .tail _ (.tail _ ht)
  · exact .tail _ (.tail _ (.tail _ ht))
theorem set_st {T n : Nat} {v : Value} {xs : List MI.Ent} {R js us : List Thing} (key : ByteArray) (val : Int) (h : Mst base T v xs n R js) (o : MI.Ok xs n) (hn : n ≤ 90000) (hL : Lie base w0 w (js ++ us)) :
    Calls Try.prog 21 #[pt T, .string key, vv val] w fun e w' => (∃ r, e = .returned (.bool r)) ∧ ∃ v' xm, MI.Ok xm (n + 1) ∧ Hid (Lie base w0 w' (tb base T v' false xm ++ (rw_ base v xs :: (R ++ us)))) := by
  rcases h with rfl | ⟨v', xm, ho, rfl⟩
  · refine (set_keep (rest := R ++ us) key val o (by omega) hL).mono ?_
    rintro e w' ⟨he, v2, H⟩
    exact ⟨⟨_, he⟩, v2, _, o.put key val, H⟩
  · refine (set_tb (rest := rw_ base v xs :: (R ++ us)) key val ho (by omega) hL).mono ?_
    rintro e w' ⟨he, v2, H⟩
    exact ⟨⟨_, he⟩, v2, _, ho.put key val, H⟩
end
theorem tail_get (xs : List MI.Ent) (hs : Srt xs) (q : Nat) (pre : List MI.Ent) (x : MI.Ent) (h : pre ++ [x] <+: xs.drop q) : MI.get xs x.1 = (x.2, true) ∧ ∃ (hi : q + pre.length < xs.length), xs[q + pre.length] = x := by
  have hl := h.length_le
  simp at hl
  have hi : q + pre.length < xs.length := by omega
  have he : xs[q + pre.length] = x := by
    have h1 : (xs.drop q)[pre.length]? = some x := by
      obtain ⟨t, ht⟩ := h
      rw [← ht]
      simp
    rw [List.getElem?_drop, List.getElem?_eq_getElem hi] at h1
    exact Option.some.inj h1
  exact ⟨by rw [← he]; exact get_at xs hs _ hi, hi, he⟩

theorem Lie.more2 {base : Nat} {w0 w w2 : World} {t0 t1 t2 t3 t4 : Thing} {ab : Nat} {va v' : Value} {sk : List ByteArray} {others : List Thing} {s : ByteArray} (h : Lie base w0 w (t0 :: t1 :: t2 :: t3 :: t4 :: box ab (.cells #[va] 47 (0, 0)) :: row base 9 1 va sk.length (sk.flatMap sc) :: others)) (ho : w2.ownsRow base 9 1 v' (sk.length + 1) (sk.flatMap sc ++ [.string s])) (t : Turn (fun k => va.ownBlock = some k) w w2) (hn : Newer w va v') :
    Lie base w0 (w2.setCell ⟨ab, 0, none⟩ v') (t0 :: t1 :: t2 :: t3 :: t4 :: box ab (.cells #[v'] 47 (0, 0)) :: row base 9 1 v' (sk ++ [s]).length ((sk ++ [s]).flatMap sc) :: others) := by
  have h1 := h.step 6 (t' := row base 9 1 v' (sk ++ [s]).length ((sk ++ [s]).flatMap sc)) rfl t (by
    show w2.ownsRow base 9 1 v' (sk ++ [s]).length ((sk ++ [s]).flatMap sc)
    rw [List.flatMap_append, List.length_append]
    exact ho) (fun k hk => hn k hk)
  have h2 := h1.setBox 5 rfl 0 v'
  exact h2
/-- What lies there between two rounds over the twin. -/
def StI (base T Ts : Nat) (v vs : Value) (xs : List MI.Ent) (lb : Nat) (sl : Value) (lb2 : Nat) (sl2 : Value) (sb mb rb ab kb : Nat) (key : ByteArray) (pre : List MI.Ent) (js : List Thing) : Prop :=
  ∃ va, js = tb base Ts vs true xs ++ [lbx lb2 sl2, box sb (.cells #[pt Ts] 33 (0, 0)), sbox kb key, box ab (.cells #[va] 47 (0, 0)), row base 9 1 va (pre.map (·.1)).length ((pre.map (·.1)).flatMap sc), bbox rb false, box mb (.cells #[pt T] 33 (0, 0)), lbx lb sl, rw_ base v xs, box T (mobj v true)]
/-- What lies there beside the table, in the second range. -/
abbrev StR (base T Ts : Nat) (vs : Value) (xs : List MI.Ent) (lb : Nat) (sl : Value) (sb mb rb ab : Nat) (va : Value) (ky : List ByteArray) (ib D1 i : Nat) : List Thing :=
  [lbx lb sl, box sb (.cells #[pt Ts] 33 (0, 0)), rw_ base vs xs, box Ts (mobj vs true), box ab (.cells #[va] 47 (0, 0)), row base 9 1 va ky.length (ky.flatMap sc), box ib (.cells #[.int .i64 i] 3 (0, 0)), bbox rb false, box mb (.cells #[pt T] 33 (0, 0)), box D1 (.deferred (some []))]
abbrev StJ (base T Ts : Nat) (v vs : Value) (xs : List MI.Ent) (lb : Nat) (sl : Value) (sb mb rb ab : Nat) (va : Value) (ky : List ByteArray) (ib D1 : Nat) (pre : List MI.Ent) (js : List Thing) : Prop :=
  Mst base T v xs (300 + 2 * pre.length) (StR base T Ts vs xs lb sl sb mb rb ab va ky ib D1 pre.length) js
set_option maxRecDepth 100000 in
set_option maxHeartbeats 8000000 in
theorem still_any (v : Value) (l : List ByteArray) (key : ByteArray) (w : World) (hl : Rd w 1 v l.length (l.flatMap sc)) (hmax : l.length ≤ maxLen) : Calls Try.prog 9 #[v, .string key] w fun e w' => e = .returned (.bool true) ∧ Below w.heap.size w w' := by
  have hq := fun fi ca W => run_eql_func_nil (P := Try.prog) W 42 (.func 58) fi ca Try.underlying42
  have S0 := hide (((Lie.start w).alloc (.cells #[.string key] 9)).alloc (.cells #[.bool false] 4))
  simp only [World.size_alloc] at S0
  have HL := hide hl
  obtain ⟨A, c, rfl⟩ := hl.shape
  obtain ⟨n, hnn⟩ : ∃ n, n = l.length := ⟨_, rfl⟩
  have HN := hide hnn
  rw [← hnn] at hmax ⊢
  unfold maxLen at hmax
  clear hl hnn
  refine callsIn_wide.1 (callsIn_of_wp_marks (n := 1) (F := Fence.wide) Try.func9 rfl trivial (wpIn_wide.2 ?_) rfl)
  simp only [Try.ntmps9, List.size_toArray, List.length_cons, List.length_nil, Nat.reduceAdd, Nat.reduceSub, Array.replicate_succ, Array.replicate_zero, List.push_toArray, List.append_toArray, List.nil_append, List.cons_append]
  go_wp2_with fail
  refine (awake_L S0.out).mono ?_
  rintro e w1 ⟨rfl, S1⟩
  clear S0
  obtain ⟨rb, hrb⟩ : ∃ rb, rb = w.heap.size + 1 := ⟨_, rfl⟩
  have S2 := hide (show Lie w.heap.size w w1 [bbox rb false, sbox w.heap.size key] by rw [hrb]; exact S1.out)
  rw [← hrb]
  clear S1 hrb
  obtain ⟨kc0, kf0⟩ := cell1 (S2.out.get 1 rfl)
  obtain ⟨rc0, rf0⟩ := cell1 (S2.out.get 0 rfl)
  have F1 := S2.out.setBox 0 rfl 0 (.bool true)
  obtain ⟨y0, _⟩ := cell1 (F1.get 0 rfl)
  have FB := hide F1.below
  have Y0 := hide y0
  clear F1 y0
  go_wp2_with fail
  by_cases hbig : 300 < n
  · go_loop [5, 6] (fun s i => ∃ k m : Nat, k ≤ n ∧ k ≤ 301 ∧ m ≤ k * 30001 ∧ i = .int .i64 k ∧ s = .int .i64 m) (fun _ i => n - (intOf i).toNat)
    case atStart => exact ⟨0, 0, by omega, by omega, by omega, rfl, rfl⟩
    case round =>
      obtain ⟨k, m, hk, hk3, hm, rfl, rfl⟩ := hrel
      by_cases hlt : k < n ∧ k ≤ 300
      · obtain ⟨hlt, h3⟩ := hlt
        obtain ⟨b, o, rfl, hb, hc⟩ := txt_at l (HL.out.below S2.out.below) (by have := HN.out; omega)
        have k1 := hc k (by have := HN.out; omega)
        obtain ⟨s, hs⟩ : ∃ s, s = l[k]'(by have := HN.out; omega) := ⟨_, rfl⟩
        rw [← hs] at k1
        clear hc hs
        by_cases hsz : 30001 < s.size
        · go_wp2_with fail
          go_round
          case rel => exact ⟨k + 1, m + 30001, by omega, by omega, by omega, by go_num, by go_num⟩
          case measure => simp [intOf]; omega
        · go_wp2_with fail
          go_round
          case rel => exact ⟨k + 1, m + s.size, by omega, by omega, by omega, by go_num, by go_num⟩
          case measure => simp [intOf]; omega
      · go_wp2_with fail
        all_goals (refine ⟨.bool true, ?_, rfl, FB.out⟩; have y0 := Y0.out; simp [results, Try.f9, go_sem, y0])
  · go_loop [5, 6] (fun s i => ∃ k m : Nat, k ≤ n ∧ m ≤ k * 30001 ∧ i = .int .i64 k ∧ s = .int .i64 m ∧ Hid (∀ t (ht : t < l.length), t < k → min (l[t]).size 30001 ≤ m)) (fun _ i => n - (intOf i).toNat)
    case atStart => exact ⟨0, 0, by omega, by omega, rfl, rfl, hide (fun t _ h => by omega)⟩
    case round =>
      obtain ⟨k, m, hk, hm, rfl, rfl, HS⟩ := hrel
      by_cases hlt : k < n
      · obtain ⟨b, o, rfl, hb, hc⟩ := txt_at l (HL.out.below S2.out.below) (by have := HN.out; omega)
        have hkl : k < l.length := by have := HN.out; omega
        have k1 := hc k hkl
        obtain ⟨s, hs⟩ : ∃ s, s = l[k] := ⟨_, rfl⟩
        have HS2 : Hid (∀ t (ht : t < l.length), t < k + 1 → min (l[t]).size 30001 ≤ m + min s.size 30001) := hide (fun t ht h => by
          by_cases h2 : t < k
          · have := HS.out t ht h2; omega
          · obtain rfl : t = k := by omega
            rw [hs]; omega)
        rw [← hs] at k1
        clear hc hs HS
        by_cases hsz : 30001 < s.size
        · rw [Nat.min_eq_right (show 30001 ≤ s.size by omega)] at HS2
          go_wp2_with fail
          go_round
          case rel => exact ⟨k + 1, m + 30001, by omega, by omega, by go_num, by go_num, HS2⟩
          case measure => simp [intOf]; omega
        · rw [Nat.min_eq_left (show s.size ≤ 30001 by omega)] at HS2
          go_wp2_with fail
          go_round
          case rel => exact ⟨k + 1, m + s.size, by omega, by omega, by go_num, by go_num, HS2⟩
          case measure => simp [intOf]; omega
      · obtain rfl : k = n := by omega
        by_cases hbig2 : 30000 < m ∨ 30000 < key.size
        · by_cases hbm : 30000 < m
          · go_wp2_with fail
            all_goals (refine ⟨.bool true, ?_, rfl, FB.out⟩; have y0 := Y0.out; simp [results, Try.f9, go_sem, y0])
          · have hbk : 30000 < key.size := hbig2.resolve_left hbm
            go_wp2_with fail
            all_goals (refine ⟨.bool true, ?_, rfl, FB.out⟩; have y0 := Y0.out; simp [results, Try.f9, go_sem, y0])
        · have hbm : ¬ 30000 < m := fun h => hbig2 (.inl h)
          have hbk : ¬ 30000 < key.size := fun h => hbig2 (.inr h)
          have HSZ : Hid (∀ s ∈ l, s.size ≤ 30000) := hide (fun s hs => by
            obtain ⟨t, ht, rfl⟩ := List.getElem_of_mem hs
            have := HS.out t ht (by have := HN.out; omega)
            omega)
          clear hlt HS hbig2
          go_wp2_with fail
          rw [HN.out]
          refine (table_any (.slice A l.length c) l HL.out (by have := HN.out; omega) S2.out).mono ?_
          rintro e w2 ⟨T, v2, rfl, S3⟩
          have OK := hide ((tab_ok l l.length).mono (m := 300) (by have := HN.out; omega))
          have HM := hide (fun y hy => HSZ.out _ (tab_mem l l.length (Nat.le_refl _) y hy).1)
          generalize tabOf l l.length = xs at *
          clear hbm hbk hm hbig hmax S2 FB Y0 kc0 kf0 rc0 rf0
          have S4 := hide (S3.out.tuck (.cells #[pt T] 33))
          clear S3
          go_wp2_with fail
          generalize w2.heap.size = mb at *
          refine (twin_tb (rest := [box mb (.cells #[pt T] 33 (0, 0)), bbox rb false, sbox w.heap.size key]) OK.out (by omega) S4.out).mono ?_
          rintro e w3 ⟨Ts, vs, rfl, S5⟩
          have S6 := hide (show Lie w.heap.size w (w3.alloc (.cells #[pt Ts] 33)) (tb w.heap.size T v2 false xs ++ [box mb (.cells #[pt T] 33 (0, 0)), bbox rb false, sbox w.heap.size key, rw_ w.heap.size vs xs, box Ts (mobj vs false), box w3.heap.size (.cells #[pt Ts] 33 (0, 0))]) from
            Lie.comm (ts := [rw_ w.heap.size vs xs, box Ts (mobj vs false), box w3.heap.size (.cells #[pt Ts] 33 (0, 0))]) (S5.out.tuck (.cells #[pt Ts] 33)))
          obtain ⟨m0, _⟩ := cell1 (S6.out.get 2 rfl)
          obtain ⟨q0, _⟩ := cell1 (S6.out.get 4 rfl)
          clear S4 S5
          go_wp2_with fail
          refine (from_tb (rest := [box mb (.cells #[pt T] 33 (0, 0)), bbox rb false, sbox w.heap.size key, rw_ w.heap.size vs xs, box Ts (mobj vs false), box w3.heap.size (.cells #[pt Ts] 33 (0, 0))]) key OK.out (by omega) S6.out).mono ?_
          rintro e w4 ⟨lb, sl, rfl, HT, S7⟩
          generalize w3.heap.size = sb at *
          clear S6 m0 q0
          -- the keys' list
          have S8 := hide (show Lie w.heap.size w (w4.alloc (.cells #[.slice none 0 0] 47)) ([rw_ w.heap.size vs xs, box Ts (mobj vs false)] ++ [box sb (.cells #[pt Ts] 33 (0, 0)), sbox w.heap.size key, box w4.heap.size (.cells #[.slice none 0 0] 47 (0, 0)), row w.heap.size 9 1 (.slice none 0 0) 0 [], bbox rb false, box mb (.cells #[pt T] 33 (0, 0)), lbx lb sl, rw_ w.heap.size v2 xs, box T (mobj v2 true)]) from
            ((S7.out.alloc (.cells #[.slice none 0 0] 47)).push (t := row w.heap.size 9 1 (.slice none 0 0) 0 []) (Turn.refl _ _) (World.ownsRow_nil _ _ _ _) (fun k hk => by cases hk)).sel [8, 9, 10, 7, 1, 0, 6, 5, 4, 2, 3] (by decide) rfl)
          obtain ⟨m0, _⟩ := cell1 (S8.out.get 2 rfl)
          obtain ⟨q0, _⟩ := cell1 (S8.out.get 3 rfl)
          clear S7
          go_wp2_with fail
          generalize w4.heap.size = ab at *
          refine (from_tb (rest := [box sb (.cells #[pt Ts] 33 (0, 0)), sbox w.heap.size key, box ab (.cells #[.slice none 0 0] 47 (0, 0)), row w.heap.size 9 1 (.slice none 0 0) 0 [], bbox rb false, box mb (.cells #[pt T] 33 (0, 0)), lbx lb sl, rw_ w.heap.size v2 xs, box T (mobj v2 true)]) key OK.out (by omega) S8.out).mono ?_
          rintro e w5 ⟨lb2, sl2, rfl, HT2, S9⟩
          clear S8 m0 q0
          have hq0 : pos xs key ≤ xs.length := pos_le xs key
          have HPA : Hid (∀ i (hi : i < xs.length), pos xs key ≤ i → 0 ≤ kc (xs[i]).1 key) := hide (fun i hi hp => Int.not_lt.1 fun h => by
            have := (pos_ahead xs key OK.out.hs i hi).2 h
            omega)
          generalize pos xs key = q at *
          go_wp2_with fail
          refine wp_rangeFunc2 [(12, fun x => .string x.1), (13, fun x => vv x.2)] (gf := 58) (lb := #[pt lb2]) rfl enters1 (iter_any w.heap.size lb2 q sl2 vs xs HT2.out (by have := OK.out.hn; omega)) (StI w.heap.size T Ts v2 vs xs lb sl lb2 sl2 sb mb rb ab w.heap.size key) (fun _ _ _ => False) (fun pre js h => by obtain ⟨va, rfl⟩ := h; exact ⟨.tail _ (.tail _ (.head _)), .head _⟩) (fun t js h => h.up t js) ⟨_, rfl⟩ S9.out ?assign ?body ?done ?stop
          case assign =>
            intro l m x W2 K hK
            simp only [asgAct, List.foldl_cons, List.foldl_nil, List.setIfInBounds_toArray, List.set_cons_zero, List.set_cons_succ] at hK
            gi_wp2
            exact hK
          case stop =>
            rintro D c pre ks W2 _ h _
            exact h.elim
          case body =>
            clear S9
            rintro l m pre x us ks W2 hpre ⟨va, rfl⟩ hL
            obtain ⟨hget, hi, hxi⟩ := tail_get xs OK.out.hs q pre x hpre
            have hnl : ¬ kc x.1 key < 0 := by rw [← hxi]; exact Int.not_lt.2 (HPA.out _ hi (by omega))
            obtain ⟨i0, hi0, hz0, hz1, hz2⟩ := info_parts info9
            have hown := hL.get 6 rfl
            obtain ⟨A2, c2, rfl⟩ := (Rd.of_own hown).shape
            obtain ⟨a0, b0⟩ := cell1 (hL.get 5 rfl)
            have hpl : (pre.map (·.1)).length ≤ 1000 := by rw [List.length_map]; have := OK.out.hn; omega
            have OWN : Hid (W2.ownsRow w.heap.size 9 1 (.slice A2 (pre.map (·.1)).length c2) (pre.map (·.1)).length ((pre.map (·.1)).flatMap sc)) := hide hown
            have H := hide hL
            have hb := hL.base_le
            have HGET := hide hget
            have hlt : Op.bytesLess x.1.toList key.toList = false := by rw [str_lt]; simpa using hnl
            obtain ⟨ky, hky⟩ : ∃ ky, ky = pre.map (·.1) := ⟨_, rfl⟩
            have HKY : Hid ((pre ++ [x]).map (·.1) = ky ++ [x.1]) := hide (by rw [hky, List.map_append]; rfl)
            rw [← hky] at a0 hpl OWN H
            clear hL hpre hget hi hxi hnl hown hky
            simp only [asgAct, List.foldl_cons, List.foldl_nil, List.setIfInBounds_toArray, List.set_cons_zero, List.set_cons_succ]
            gi_wp2_with (gi_at_builtin; refine wpListIn_append1 rfl (.tmp 68) (.tmp 70) 47 rfl w.heap.size 9 i0 _ 1 16 Try.underlying47 hi0 hz0 hz1 hz2 rfl (by decide) (.slice A2 ky.length c2) ky.length _ (by simp [Act.eval]) OWN.out [.string x.1] (by simp [Act.eval]) rfl (by intro u hu; simp at hu; subst hu; rfl) (by omega) (by omega) hb ?_; intro v' w2 ho t2 hnw; obtain ⟨A', c', rfl⟩ := (Rd.of_own ho).shape; have hA : w2.heap[ab]? = some (.cells #[.slice A2 ky.length c2] 47 (0, 0)) := t2.obj (H.out.get 5 rfl) (fun hk => H.out.apart 5 6 _ _ (by decide) rfl rfl ab rfl hk); obtain ⟨d0, g0⟩ := cell1 hA; have L3 := hide (Lie.more2 H.out ho t2 hnw); obtain ⟨s0, _⟩ := cell1 (L3.out.get 3 rfl); obtain ⟨q0, _⟩ := cell1 (L3.out.get 4 rfl); clear ho t2 hnw hA)
            refine ⟨trivial, fun h => (by cases h), ?_⟩
            refine (CallsIn.inRound l (callsIn_wide.2 (get_any (j := 1) (k := 0) x.1 ⟨rfl, rfl, OK.out.hs, by have := OK.out.hn; omega⟩ L3.out))).mono ?_
            rintro e w6 ⟨rfl, L4⟩
            rw [HGET.out]
            clear s0 q0 d0 g0 a0 b0
            obtain ⟨q0, _⟩ := cell1 (L4.out.get 4 rfl)
            have e1 : (x.2 == x.2) = true := by simp
            gi_wp2_with fail
            exact ⟨_, ⟨_, rfl⟩, by rw [HKY.out]; exact L4.out⟩
          case done =>
            rintro D1 ks W2 ⟨va, rfl⟩ hL
            have hown := hL.get 7 rfl
            obtain ⟨A3, c3, rfl⟩ := (Rd.of_own hown).shape
            have hKl : ((xs.drop q).map (·.1)).length = xs.length - q := by rw [List.length_map, List.length_drop]
            have HKE : Hid (∀ i (hi : i < ((xs.drop q).map (·.1)).length), ∃ (h2 : q + i < xs.length), ((xs.drop q).map (·.1))[i] = (xs[q + i]).1) := hide (fun i hi => ⟨by rw [hKl] at hi; omega, by simp⟩)
            generalize (xs.drop q).map (·.1) = ky at *
            have S10 := hide (show Lie w.heap.size w (W2.alloc (.cells #[.int .i64 0] 3)) (tb w.heap.size T v2 true xs ++ StR w.heap.size T Ts vs xs lb sl sb mb rb ab (.slice A3 ky.length c3) ky W2.heap.size D1 0) from
              (hL.alloc (.cells #[.int .i64 0] 3)).sel [12, 13, 11, 5, 2, 3, 7, 8, 0, 9, 10, 1] (by decide) rfl)
            clear hL hown S9
            go_wp2_with fail
            generalize W2.heap.size = ib at *
            refine wp_rangeFunc2 [(17, fun x => .string x.1), (18, fun x => vv x.2)] (gf := 58) (lb := #[pt lb]) rfl enters1 (iter_any w.heap.size lb q sl v2 xs HT.out (by have := OK.out.hn; omega)) (StJ w.heap.size T Ts v2 vs xs lb sl sb mb rb ab (.slice A3 ky.length c3) ky ib D1) (fun _ _ _ => False) (fun pre js h => ⟨h.rest (.head _), h.row⟩) (fun t js h => h.up t js) (.inl rfl) S10.out ?assign ?body ?done ?stop
            case assign =>
              intro l m x W2 K hK
              simp only [asgAct, List.foldl_cons, List.foldl_nil, List.setIfInBounds_toArray, List.set_cons_zero, List.set_cons_succ] at hK
              gi_wp2
              exact hK
            case stop =>
              rintro D c pre ks W2 _ h _
              exact h.elim
            case body =>
              clear S10
              rintro l m pre x us js W3 hpre hst hL
              obtain ⟨hget, hi, hxi⟩ := tail_get xs OK.out.hs q pre x hpre
              have hxs := HM.out x (by rw [← hxi]; exact List.getElem_mem hi)
              have hpk : pre.length < ky.length := by omega
              have hkx : ky[pre.length] = x.1 := by obtain ⟨h2, h3⟩ := HKE.out _ hpk; rw [h3, hxi]
              obtain ⟨i0, _⟩ := cell1 (Lie.mem hL (List.mem_append_left _ (hst.rest (t := box ib (.cells #[.int .i64 pre.length] 3 (0, 0))) (by simp [StR]))))
              obtain ⟨a0, _⟩ := cell1 (Lie.mem hL (List.mem_append_left _ (hst.rest (t := box ab (.cells #[.slice A3 ky.length c3] 47 (0, 0))) (by simp [StR]))))
              have hrow : W3.ownsRow w.heap.size 9 1 (.slice A3 ky.length c3) ky.length (ky.flatMap sc) := Lie.mem hL (List.mem_append_left _ (hst.rest (t := row w.heap.size 9 1 (.slice A3 ky.length c3) ky.length (ky.flatMap sc)) (by simp [StR])))
              obtain ⟨b, o, hA3, hb, hc⟩ := txt_at ky (Rd.of_own hrow) (by omega)
              have k1 := hc _ hpk
              rw [hkx] at k1
              subst hA3
              have hsb : box sb (.cells #[pt Ts] 33 (0, 0)) ∈ js ++ us := List.mem_append_left _ (hst.rest (by simp [StR]))
              have hgi := get_in (w0 := w) x.1 OK.out (by omega) (List.mem_append_left us (hst.rest (t := box Ts (mobj vs true)) (by simp [StR]))) (List.mem_append_left us (hst.rest (t := rw_ w.heap.size vs xs) (by simp [StR]))) hL
              rw [hget] at hgi
              have HGI := hide hgi
              have HST : Hid (Mst w.heap.size T v2 xs (300 + 2 * pre.length) (StR w.heap.size T Ts vs xs lb sl sb mb rb ab (.slice (some ⟨b, o, none⟩) ky.length c3) ky ib D1 pre.length) js) := hide hst
              have HSB := hide hsb
              have hkl3 : ky.length ≤ 300 := by have := OK.out.hn; omega
              have HMB : Hid (box mb (.cells #[pt T] 33 (0, 0)) ∈ js ++ us) := hide (List.mem_append_left _ (hst.rest (by simp [StR])))
              obtain ⟨s0, _⟩ := cell1 (Lie.mem hL hsb)
              have hpl : ((pre ++ [x]).length : Int) = (pre.length : Int) + 1 := by simp
              have hpn : (pre ++ [x]).length = pre.length + 1 := by simp
              have HPL := hide hpl
              have HPN := hide hpn
              have e1 : (x.1.toList == x.1.toList) = true := by simp
              have e2 : (x.2 == x.2) = true := by simp
              generalize pre.length = p at *
              clear hc hrow hsb hgi hst hget hi hxi hkx hpre hL hpl hpn
              simp only [asgAct, List.foldl_cons, List.foldl_nil, List.setIfInBounds_toArray, List.set_cons_zero, List.set_cons_succ]
              gi_wp2_with fail
              refine ⟨trivial, fun h => (by cases h), ?_⟩
              refine (CallsIn.inRound l (callsIn_wide.2 HGI.out)).mono ?_
              rintro e w6 ⟨rfl, L4⟩
              obtain ⟨m0, _⟩ := cell1 (Lie.mem L4.out HMB.out)
              clear s0 HSB HMB a0 i0 k1 HGI
              gi_wp2_with fail
              refine ⟨trivial, fun h => (by cases h), ?_⟩
              refine (CallsIn.inRound l (callsIn_wide.2 (set_st x.1 (-1) HST.out (OK.out.mono (by omega)) (by omega) L4.out))).mono ?_
              rintro e w7 ⟨⟨r7, rfl⟩, v7, x7, O7, L7⟩
              have hsz : ¬ 9223372036854775807 < x.1.size + (⟨#[120]⟩ : ByteArray).size := by
                have : (⟨#[120]⟩ : ByteArray).size = 1 := rfl
                omega
              clear m0 L4
              obtain ⟨m0, _⟩ := cell1 (L7.out.get 11 rfl)
              gi_wp2_with fail
              refine ⟨trivial, fun h => (by cases h), ?_⟩
              refine (CallsIn.inRound l (callsIn_wide.2 (set_tb (x.1 ++ ⟨#[120]⟩) (-2) O7 (by omega) L7.out))).mono ?_
              rintro e w8 ⟨rfl, v8, L8⟩
              have O8 := hide (O7.put (x.1 ++ ⟨#[120]⟩) (-2))
              clear m0 L7 O7
              obtain ⟨m0, _⟩ := cell1 (L8.out.get 11 rfl)
              gi_wp2_with fail
              refine ⟨trivial, fun h => (by cases h), ?_⟩
              refine (CallsIn.inRound l (callsIn_wide.2 (del_keep x.1 O8.out (by omega) L8.out))).mono ?_
              rintro e w9 ⟨rfl, v9, L9⟩
              have O9 := hide (O8.out.del x.1)
              generalize del _ x.1 = x9 at *
              clear m0 L8 O8
              obtain ⟨i0, j0⟩ := cell1 (L9.out.get 9 rfl)
              have L10 := hide (L9.out.setBox 9 rfl 0 (.int .i64 ((p : Int) + 1)))
              obtain ⟨i1, _⟩ := cell1 (L10.out.get 9 rfl)
              obtain ⟨a1, _⟩ := cell1 (L10.out.get 7 rfl)
              obtain ⟨m1, _⟩ := cell1 (L10.out.get 11 rfl)
              have htd : (ky.length : Int).tdiv 2 = (ky.length : Int) / 2 := Int.tdiv_eq_ediv_of_nonneg (Int.natCast_nonneg _)
              have hwd : IntKind.i64.wrap ((ky.length : Int) / 2) = (ky.length : Int) / 2 := IntWalk.i64_in _ (by omega)
              by_cases heq : (p : Int) + 1 = (ky.length : Int) / 2
              · have heb : ((p : Int) + 1 == (ky.length : Int) / 2) = true := beq_iff_eq.2 heq
                clear heq
                gi_wp2_with fail
                refine ⟨trivial, fun h => (by cases h), ?_⟩
                refine (CallsIn.inRound l (callsIn_wide.2 (clear_tb O9.out (by omega) L10.out))).mono ?_
                rintro e w10 ⟨rfl, v10, L11⟩
                gi_wp2_with fail
                refine ⟨tb w.heap.size T v10 false [] ++ (rw_ w.heap.size v2 xs :: StR w.heap.size T Ts vs xs lb sl sb mb rb ab (.slice (some ⟨b, o, none⟩) ky.length c3) ky ib D1 (pre ++ [x]).length), .inr ⟨v10, [], Ok.nil.mono (by omega), rfl⟩, ?_⟩
                rw [HPN.out]
                exact L11.out
              · have heb : ((p : Int) + 1 == (ky.length : Int) / 2) = false := beq_eq_false_iff_ne.2 heq
                clear heq
                gi_wp2_with fail
                refine ⟨tb w.heap.size T v9 false x9 ++ (rw_ w.heap.size v2 xs :: StR w.heap.size T Ts vs xs lb sl sb mb rb ab (.slice (some ⟨b, o, none⟩) ky.length c3) ky ib D1 (pre ++ [x]).length), .inr ⟨v9, x9, O9.out.mono (by rw [HPN.out]; omega), rfl⟩, ?_⟩
                rw [HPN.out]
                exact L10.out
            case done =>
              rintro D2 js W3 hst hL
              have hLQ : (xs.drop q).length = ky.length := by rw [List.length_drop, hKl]
              rcases hst with rfl | ⟨v5, x5, _, rfl⟩
              · obtain ⟨i0, _⟩ := cell1 (hL.get 9 rfl)
                obtain ⟨a0, _⟩ := cell1 (hL.get 7 rfl)
                obtain ⟨r0, r1⟩ := cell1 (hL.get 10 rfl)
                have F1 := hL.setBox 10 rfl 0 (.bool true)
                have hK : _ = _ := F1.get 0 rfl
                have F2 := F1.put 0 rfl (.deferred none)
                have hK2 : _ = _ := F2.get 12 rfl
                have F3 := F2.put 12 rfl (.deferred none)
                obtain ⟨y0, _⟩ := cell1 (F3.get 10 rfl)
                have HK1 := hide (run_takeDeferred (P := Try.prog) hK)
                have HK2 := hide (run_takeDeferred (P := Try.prog) hK2)
                have FB := hide F3.below
                have Y0 := hide y0
                rw [hLQ] at i0
                have e1 : ((ky.length : Int) == (ky.length : Int)) = true := by simp
                clear hL F1 hK F2 hK2 F3 y0 S10
                go_wp2_with fail
                refine ⟨by simp, .inl ⟨_, _, rfl, HK1.out, by simp, .inl ⟨_, _, rfl, HK2.out, ?_⟩⟩⟩
                refine ⟨.bool true, ?_, rfl, FB.out⟩
                have y0 := Y0.out
                simp [results, Try.f9, go_sem, y0]
              · obtain ⟨i0, _⟩ := cell1 (hL.get 10 rfl)
                obtain ⟨a0, _⟩ := cell1 (hL.get 8 rfl)
                obtain ⟨r0, r1⟩ := cell1 (hL.get 11 rfl)
                have F1 := hL.setBox 11 rfl 0 (.bool true)
                have hK : _ = _ := F1.get 0 rfl
                have F2 := F1.put 0 rfl (.deferred none)
                have hK2 : _ = _ := F2.get 13 rfl
                have F3 := F2.put 13 rfl (.deferred none)
                obtain ⟨y0, _⟩ := cell1 (F3.get 11 rfl)
                have HK1 := hide (run_takeDeferred (P := Try.prog) hK)
                have HK2 := hide (run_takeDeferred (P := Try.prog) hK2)
                have FB := hide F3.below
                have Y0 := hide y0
                rw [hLQ] at i0
                have e1 : ((ky.length : Int) == (ky.length : Int)) = true := by simp
                clear hL F1 hK F2 hK2 F3 y0 S10
                go_wp2_with fail
                refine ⟨by simp, .inl ⟨_, _, rfl, HK1.out, by simp, .inl ⟨_, _, rfl, HK2.out, ?_⟩⟩⟩
                refine ⟨.bool true, ?_, rfl, FB.out⟩
                have y0 := Y0.out
                simp [results, Try.f9, go_sem, y0]
end Go.Proofs.Ytcaeechlpadboaa
