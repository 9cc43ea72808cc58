/- The texts Jh in one. -/
import Derived.Test.YtmkjejngnahpeaaB9
/- stops: plain: the plain picks, and each file's way. -/
namespace Go.Proofs.Ytmkjejngnahpeaa
open Go Go.Maps Go.RowKit

structure PlS where
  out : List Nat
  ways : List Nat
  ps : List Int
def plainStep (s : PlS) (u : U0) : PlS :=
  if u.name = true then
    if (nextP 2 s.ps).1 = 0 then ⟨s.out ++ [0], s.ways ++ [0], (nextP 2 s.ps).2⟩
    else if 0 < u.more then ⟨s.out ++ [(nextP 2 s.ps).1] ++ [(nextP (u.more + 1) (nextP 2 s.ps).2).1], s.ways ++ [1 + (nextP (u.more + 1) (nextP 2 s.ps).2).1], (nextP (u.more + 1) (nextP 2 s.ps).2).2⟩
    else ⟨s.out ++ [(nextP 2 s.ps).1], s.ways ++ [1], (nextP 2 s.ps).2⟩
  else if 0 < u.more then ⟨s.out ++ [(nextP (u.more + 1) s.ps).1], s.ways ++ [(nextP (u.more + 1) s.ps).1], (nextP (u.more + 1) s.ps).2⟩
  else ⟨s.out, s.ways ++ [0], s.ps⟩
/-- the plain picks, and each file's way -/
def plainT (l : List U0) (ps : List Int) : PlS := l.foldl plainStep ⟨[], [], ps⟩
theorem plainT_succ {l : List U0} {ps : List Int} {j : Nat} (hj : j < l.length) : plainT (l.take (j + 1)) ps = plainStep (plainT (l.take j) ps) l[j] := by
  unfold plainT
  rw [List.take_succ_eq_append_getElem hj, List.foldl_append]
  rfl
theorem plainStep_ok {s : PlS} {u : U0} (h : PicksOk s.ps) : PicksOk (plainStep s u).ps := by
  unfold plainStep
  split
  · split
    · exact nextP_ok _ h
    · split
      · exact nextP_ok _ (nextP_ok _ h)
      · exact nextP_ok _ h
  · split
    · exact nextP_ok _ h
    · exact h
theorem plainStep_len {s : PlS} {u : U0} : (plainStep s u).ways.length = s.ways.length + 1 ∧ (plainStep s u).out.length ≤ s.out.length + 2 := by
  unfold plainStep
  split
  · split
    · simp
    · split <;> simp
  · split <;> simp
theorem plainT_len : ∀ (l : List U0) (s : PlS), (l.foldl plainStep s).ways.length = s.ways.length + l.length ∧ (l.foldl plainStep s).out.length ≤ s.out.length + 2 * l.length
  | [], s => ⟨rfl, Nat.le_refl _⟩
  | u :: r, s => by
    have h1 := plainT_len r (plainStep s u)
    have h2 := plainStep_len (s := s) (u := u)
    rw [List.foldl_cons, List.length_cons]
    omega
structure PlI (w wr : World) (b3 b4 : Nat) (v : Value) (s : PlS) : Prop where
  picks : PicksAt wr b3 w.heap.size s.ps
  out : HoldRow 3 32 1 b4 (w.heap.size + 2) wr s.out.length (natCells s.out)
  ways : rowAt wr 2 1 v s.ways.length (natCells s.ways)
  own : ∀ k, v.ownBlock = some k → w.heap.size + 2 ≤ k
  below : Below w.heap.size w wr
  size : w.heap.size + 2 ≤ wr.heap.size
  ne : b3 ≠ b4
  b3 : w.heap.size ≤ b3 ∧ b3 < w.heap.size + 2
  b4 : w.heap.size ≤ b4 ∧ b4 < w.heap.size + 2
section
variable {w wr W' : World} {b3 b4 : Nat} {v : Value} {s : PlS}
theorem PlI.grown (h : PlI w wr b3 b4 v s) (hb : Below wr.heap.size wr W') : PlI w W' b3 b4 v s :=
  { h with
    picks := h.picks.kept (fun k hk => hb.block k (by
      have h1 := h.b3
      have h2 := h.size
      rcases hk with rfl | hk <;> omega))
    out := h.out.kept hb
    ways := h.ways.kept (fun k hk => hb.block k (h.ways.lt k hk))
    below := h.below.trans (hb.mono (by have := h.size; omega))
    size := Nat.le_trans h.size hb.size }
theorem PlI.pick {p m : Nat} {rest : List Int} {e : Ending} (h : PlI w wr b3 b4 v s) (hm : m = s.out.length) (hp : PnIs wr b3 b4 w.heap.size (w.heap.size + 2) m p rest s.out e W') : PlI w W' b3 b4 v ⟨s.out ++ [p], s.ways, rest⟩ :=
  { h with
    picks := hp.picks
    out := by
      have := hp.out
      rw [hm] at this
      simpa using this
    ways := h.ways.kept (fun k hk => by
      rcases h.ways.2 with ⟨hv, _⟩ | ⟨g, off, cap, cur, fr, hv, hgg, _⟩
      · rw [hv] at hk
        simp [Value.ownBlock] at hk
      · rw [hv] at hk
        simp only [Value.ownBlock, Option.some.injEq] at hk
        subst hk
        exact hp.keep g _ _ _ hgg (by decide))
    below := h.below.trans hp.below
    size := Nat.le_trans h.size hp.size }
theorem PlI.way {w9 : World} {x m : Nat} {oa oa3 : Option Addr} {c c3 : Nat} (h : PlI w wr b3 b4 (.slice oa m c) s) (hm : m = s.ways.length)
    (hr : rowAt w9 2 1 (.slice oa3 (m + 1) c3) (m + 1) (natCells s.ways ++ [.int .i64 x])) (hg : (wr.alloc (.cells [.int .i64 x].toArray 2)).grownBy w9 (Value.slice oa m c).ownBlock)
    (hw : (Value.slice oa3 (m + 1) c3).ownBlock = (Value.slice oa m c).ownBlock ∨ (Value.slice oa3 (m + 1) c3).ownBlock = some (wr.heap.size + 1)) : PlI w w9 b3 b4 (.slice oa3 (m + 1) c3) ⟨s.out, s.ways ++ [x], s.ps⟩ := by
  have h1 := h.grown (W' := wr.alloc (.cells [.int .i64 x].toArray 2)) ((Below.refl _ _).alloc (Nat.le_refl _) _)
  have hbl : Below w.heap.size (wr.alloc (.cells [.int .i64 x].toArray 2)) w9 := (Below.refl _ _).grown hg (by have := h1.size; omega) (fun k e => by have := h.own k e; omega)
  have hrow := h1.ways
  rw [← hm] at hrow
  have hk : KeepT [2] (wr.alloc (.cells [.int .i64 x].toArray 2)) w9 := KeepT.grown hrow (by simp) hg
  have hsz := hg.size
  exact { h1 with
    picks := by
      obtain ⟨o1, c1, hq, hq2, hq3⟩ := h1.picks
      exact ⟨o1, c1, (hk b3 _ _ _ hq (by decide)).trans hq, hq2.kept (fun k hk1 hk2 h0 => hbl.block k (hq3 h0 k hk2).2), hq3⟩
    out := by
      obtain ⟨o1, c1, hq, hq2, hq3⟩ := h1.out
      refine ⟨o1, c1, (hk b4 _ _ _ hq (by decide)).trans hq, hq2.kept (fun k hk1 => ?_), hq3⟩
      rcases hq2.2 with ⟨hv, _⟩ | ⟨g, off, cap, cur, fr, hv, hgg, _⟩
      · rw [hv] at hk1
        simp [Value.ownBlock] at hk1
      · rw [hv] at hk1
        simp only [Value.ownBlock, Option.some.injEq] at hk1
        subst hk1
        exact hk g _ _ _ hgg (by decide)
    ways := by
      rw [natCells_append]
      have : (s.ways ++ [x]).length = m + 1 := by simp [hm]
      rw [this]
      exact hr
    own := fun k hk1 => by
      rcases hw with e | e
      · exact h.own k (by rw [← e]; exact hk1)
      · rw [hk1] at e
        simp only [Option.some.injEq] at e
        have := h.size
        omega
    below := h1.below.trans hbl
    size := Nat.le_trans h1.size hsz }
end
set_option maxRecDepth 100000 in
set_option maxHeartbeats 4000000 in
theorem plain_b {w : World} {oa : Option Addr} {n c : Nat} {l : List U0} (hn : l.length = n) (h : readAt w 2 (.slice oa n c) n (uCells l)) (hm : n ≤ 4096) (hsm : ∀ u ∈ l, u.more ≤ 16777216)
    {op : Option Addr} {np cp : Nat} {ps : List Int} (hnp : ps.length = np) (hp : readAt w 1 (.slice op np cp) np (intCells ps)) (hok : PicksOk ps) :
    Calls Try.prog 137 #[.slice oa n c, .slice op np cp] w fun e w' => ∃ o1 m1 c1 o2 m2 c2, e = .returned (.tuple #[.slice o1 m1 c1, .slice o2 m2 c2]) ∧ (plainT l ps).out.length = m1 ∧ (plainT l ps).ways.length = m2 ∧ readAt w' 1 (.slice o1 m1 c1) m1 (natCells (plainT l ps).out) ∧ readAt w' 1 (.slice o2 m2 c2) m2 (natCells (plainT l ps).ways) ∧ Below w.heap.size w w' := by
  have HR := Lib.hid h
  have HN := Lib.hid hn
  have HS := Lib.hid hsm
  have hone : ∀ (x : Int), ∀ v ∈ ([.int .i64 x] : List Value), v.oneCell' = true := fun x v hv => by
    rw [List.mem_singleton] at hv
    subst hv
    rfl
  have HONE := Lib.hid hone
  obtain ⟨w2, hw2⟩ : ∃ W : World, W = (w.alloc (.cells #[.slice op np cp] 32)).alloc (.cells #[.slice none 0 0] 32) := ⟨_, rfl⟩
  obtain ⟨b3, hb3⟩ : ∃ b, b = w.heap.size := ⟨_, rfl⟩
  obtain ⟨b4, hb4⟩ : ∃ b, b = w.heap.size + 1 := ⟨_, rfl⟩
  have hs2 : w2.heap.size = w.heap.size + 2 := by rw [hw2]; simp
  have hbl2 : Below w.heap.size w w2 := by rw [hw2]; exact ((Below.refl _ _).alloc (Nat.le_refl _) _).alloc (by simp) _
  have h3 : w2.heap[b3]? = some (.cells #[.slice op np cp] 32 (0, 0)) := by
    rw [hw2, hb3]
    exact (Below.heap_alloc _ _ _ (by simp)).trans (alloc_cells _ _ _)
  have h4 : w2.heap[b4]? = some (.cells #[.slice none 0 0] 32 (0, 0)) := by
    rw [hw2, hb4]
    have := alloc_cells (w.alloc (.cells #[.slice op np cp] 32)) #[.slice none 0 0] 32
    rwa [World.size_alloc] at this
  have hI0 : PlI w w2 b3 b4 (.slice none 0 0) ⟨[], [], ps⟩ :=
    { picks := ⟨op, cp, by rw [hnp]; exact h3, by rw [hnp]; exact hp.kept (fun k hk _ _ => hbl2.block k hk), fun h0 k hk => by
        rw [hnp] at hk h0
        have := hp.lt h0 k hk
        exact ⟨by omega, this⟩⟩
      out := ⟨none, 0, h4, ⟨rfl, .inl ⟨rfl, rfl⟩⟩, fun k hk => by simp [Value.ownBlock] at hk⟩
      ways := ⟨rfl, .inl ⟨rfl, rfl⟩⟩
      own := fun k hk => by simp [Value.ownBlock] at hk
      below := hbl2
      size := by omega
      ne := by omega
      b3 := by omega
      b4 := by omega }
  have HI0 := Lib.hid hI0
  have HOK := Lib.hid hok
  clear h hn hsm hone hnp hp hok hI0 h3 h4 hbl2 hs2
  go_enter Try.func137, Try.ntmps137
  go_upto_region 1 with fail
  rw [← hw2, ← hb4, ← hb3]
  clear hw2 hb3 hb4
  go_step3
  go_wp2_with fail
  go_step3
  go_wp2_with fail
  go_loopw [5, 13] (fun sv i wr => ∃ (j mw : Nat) (ow : Option Addr) (cw : Nat), j ≤ n ∧ i = .int .i64 j ∧ sv = .slice ow mw cw ∧ Hid ((plainT (l.take j) ps).ways.length = mw ∧ mw = j) ∧ Hid (PlI w wr b3 b4 (.slice ow mw cw) (plainT (l.take j) ps)) ∧ Hid (PicksOk (plainT (l.take j) ps).ps)) (fun _ i wr => n - (intOf i).toNat)
  case atStart => exact ⟨0, 0, none, 0, Nat.zero_le _, rfl, rfl, Lib.hid ⟨rfl, rfl⟩, HI0, HOK⟩
  case round =>
    obtain ⟨j, mw, ow, cw, hj, rfl, rfl, HM, HI, HP⟩ := hrel
    by_cases hlt : j < n
    · have hjl : j < l.length := by rw [HN.out]; exact hlt
      have hrw : readAt wr 2 (.slice oa n c) n (uCells l) := HR.out.kept (fun k hl _ _ => HI.out.below.block k hl)
      obtain ⟨g, off, rfl⟩ := hrw.addr (by omega)
      obtain ⟨u, hu⟩ : ∃ u, l[j] = u := ⟨_, rfl⟩
      have hum : u.more ≤ 16777216 := HS.out u (by rw [← hu]; exact List.getElem_mem _)
      obtain ⟨ub, hub⟩ : ∃ b, u.name = b := ⟨_, rfl⟩
      obtain ⟨um, humm⟩ : ∃ m, u.more = m := ⟨_, rfl⟩
      have k0 : wr.cell? ⟨g, off + j * 2, none⟩ = some (.bool ub) := us_cell (i := 0) hrw hjl (by omega) (by rw [hu, ← hub]; rfl)
      have k1 : wr.cell? ⟨g, off + j * 2 + 1, none⟩ = some (.int .i64 um) := us_cell (i := 1) hrw hjl (by omega) (by rw [hu, ← humm]; rfl)
      have hue : u = ⟨ub, um⟩ := by rw [← hub, ← humm]
      rw [humm] at hum
      obtain ⟨st, hst⟩ : ∃ st, plainT (l.take j) ps = st := ⟨_, rfl⟩
      have hol : st.out.length ≤ 8192 := by
        have h1 := (plainT_len (l.take j) ⟨[], [], ps⟩).2
        have h2 : plainT (l.take j) ps = (l.take j).foldl plainStep ⟨[], [], ps⟩ := rfl
        rw [← h2, hst, List.length_take] at h1
        simp at h1
        omega
      rw [hst] at HM HI HP
      have HCS : Hid (plainT (l.take (j + 1)) ps = plainStep st ⟨ub, um⟩) := Lib.hid (by rw [plainT_succ hjl, hst, hu, hue])
      have HNX : Hid (PicksOk (plainStep st ⟨ub, um⟩).ps ∧ (plainStep st ⟨ub, um⟩).ways.length = j + 1) := Lib.hid ⟨plainStep_ok HP.out, by rw [plainStep_len.1]; have := HM.out; omega⟩
      have hmw : mw = j := HM.out.2
      subst hmw
      clear hrw hu hue hub humm hst
      go_upto_region 5 with fail
      obtain ⟨w3, hw3⟩ : ∃ W : World, W = wr.alloc (.cells #[.bool ub, .int .i64 um] 213) := ⟨_, rfl⟩
      obtain ⟨b8, hb8⟩ : ∃ b, b = wr.heap.size := ⟨_, rfl⟩
      have h3 : w3.heap[b8]? = some (.cells #[.bool ub, .int .i64 um] 213 (0, 0)) := by rw [hw3, hb8]; exact alloc_cells _ _ _
      have hbl3 : Below wr.heap.size wr w3 := by rw [hw3]; exact (Below.refl _ _).alloc (Nat.le_refl _) _
      have HI3 := Lib.hid (HI.out.grown hbl3)
      have H3 := Lib.hid h3
      have y0 : w3.cell? ⟨b8, 0, none⟩ = some (.bool ub) := cell_of h3 rfl
      have y1 : w3.cell? ⟨b8, 1, none⟩ = some (.int .i64 um) := cell_of h3 rfl
      rw [← hw3, ← hb8]
      clear hw3 hb8 h3 hbl3 k0 k1
      have HEND : Hid (∀ (wx : World) (oy : Option Addr) (cy : Nat), PlI w wx b3 b4 (.slice oy (mw + 1) cy) (plainStep st ⟨ub, um⟩) → ∃ (j' mw' : Nat) (ow' : Option Addr) (cw' : Nat), j' ≤ n ∧ (Value.int .i64 ((mw : Int) + 1)) = .int .i64 j' ∧ (Value.slice oy (mw + 1) cy) = .slice ow' mw' cw' ∧ Hid ((plainT (l.take j') ps).ways.length = mw' ∧ mw' = j') ∧ Hid (PlI w wx b3 b4 (.slice ow' mw' cw') (plainT (l.take j') ps)) ∧ Hid (PicksOk (plainT (l.take j') ps).ps)) := Lib.hid (fun wx oy cy hpl => by
        refine ⟨mw + 1, mw + 1, oy, cy, by omega, by simp, rfl, Lib.hid ⟨by rw [HCS.out]; exact HNX.out.2, rfl⟩, Lib.hid (by rw [HCS.out]; exact hpl), Lib.hid (by rw [HCS.out]; exact HNX.out.1)⟩)
      have HOKP : Hid (AllGe st.ps ∧ ∀ x ∈ st.ps, x ≤ 9223372036854775807) := Lib.hid ⟨fun x hx => (HP.out x hx).1, fun x hx => (HP.out x hx).2⟩
      cases ub
      · by_cases hpos : 0 < um
        · have hd : decide ((0 : Int) < (um : Int)) = true := decide_eq_true (by omega)
          go_wp2_with fail
          refine (pnext_b HI3.out.picks HI3.out.out HI3.out.ne HI3.out.b3.1 HI3.out.b4.1 HI3.out.b3.2 HI3.out.b4.2 HI3.out.size (by omega) HOKP.out.1 (um + 1) (by omega) (by omega) HOKP.out.2 (by omega)).mono ?_
          rintro e w4 hpn
          obtain rfl := hpn.ret
          have hpi := HI3.out.pick rfl hpn
          have hplt := nextP_lt (um + 1) st.ps (by omega)
          obtain ⟨p, hp⟩ : ∃ p, (nextP (um + 1) st.ps).1 = p := ⟨_, rfl⟩
          rw [hp] at hpi hplt ⊢
          have HPI := Lib.hid hpi
          have HPP := Lib.hid hp
          clear hpn hpi hp
          have hwr : rowAt w4 2 1 (.slice ow mw cw) mw (natCells st.ways) := by have h9 := HPI.out.ways; have e9 := HM.out.1; (try dsimp only at h9); rw [e9] at h9; exact h9
          have HWR := Lib.hid hwr
          clear hwr
          go_wp2_with (at_builtin; refine wpList_append_one rfl (.tmp 35) (.tmp 37) 209 2 rfl Try.underlying209 info_i64 rfl (by omega) HWR.out (by omega) [.int .i64 ((p : Int))] rfl (HONE.out _) rfl rfl ?_; intro oa9 c9 w9 HRX HGX HOX)
          have hfin := PlI.way (x := p) HPI.out HM.out.1.symm (by have h9 := HRX.out; exact h9) (by have h9 := HGX.out; exact h9) HOX.out
          have hst : plainStep st ⟨false, um⟩ = ⟨st.out ++ [p], st.ways ++ [p], (nextP (um + 1) st.ps).2⟩ := by unfold plainStep; rw [if_neg (by simp), if_pos hpos, HPP.out]
          rw [← hst] at hfin
          exact ⟨HEND.out _ _ _ hfin, by simp [intOf]; omega⟩
        · have hd : decide ((0 : Int) < (um : Int)) = false := decide_eq_false (by omega)
          have hwr : rowAt w3 2 1 (.slice ow mw cw) mw (natCells st.ways) := by have h9 := HI3.out.ways; have e9 := HM.out.1; (try dsimp only at h9); rw [e9] at h9; exact h9
          have HWR := Lib.hid hwr
          clear hwr
          go_wp2_with (at_builtin; refine wpList_append_one rfl (.tmp 35) (.tmp 37) 209 2 rfl Try.underlying209 info_i64 rfl (by omega) HWR.out (by omega) [.int .i64 (0)] rfl (HONE.out _) rfl rfl ?_; intro oa9 c9 w9 HRX HGX HOX)
          have hfin := PlI.way (x := 0) HI3.out HM.out.1.symm (by have h9 := HRX.out; exact h9) (by have h9 := HGX.out; exact h9) HOX.out
          have hst : plainStep st ⟨false, um⟩ = ⟨st.out, st.ways ++ [0], st.ps⟩ := by unfold plainStep; rw [if_neg (by simp), if_neg hpos]
          rw [← hst] at hfin
          exact ⟨HEND.out _ _ _ hfin, by simp [intOf]; omega⟩
      · go_wp2_with fail
        refine (pnext_b HI3.out.picks HI3.out.out HI3.out.ne HI3.out.b3.1 HI3.out.b4.1 HI3.out.b3.2 HI3.out.b4.2 HI3.out.size (by omega) HOKP.out.1 2 (by omega) (by omega) HOKP.out.2 (by omega)).mono ?_
        rintro e w4 hpn
        obtain rfl := hpn.ret
        have hpi := HI3.out.pick rfl hpn
        have h84 : w4.heap[b8]? = some (.cells #[.bool true, .int .i64 um] 213 (0, 0)) := (hpn.keep b8 _ _ _ H3.out (by decide)).trans H3.out
        have y1' : w4.cell? ⟨b8, 1, none⟩ = some (.int .i64 um) := cell_of h84 rfl
        have hplt := nextP_lt 2 st.ps (by omega)
        have hok2 := nextP_ok 2 HP.out
        obtain ⟨p, hp⟩ : ∃ p, (nextP 2 st.ps).1 = p := ⟨_, rfl⟩
        obtain ⟨r2, hr2⟩ : ∃ r, (nextP 2 st.ps).2 = r := ⟨_, rfl⟩
        rw [hp, hr2] at hpi
        rw [hp] at hplt ⊢
        rw [hr2] at hok2
        have HPI := Lib.hid hpi
        have HPP := Lib.hid (And.intro hp hr2)
        have HOK2 : Hid (AllGe r2 ∧ ∀ x ∈ r2, x ≤ 9223372036854775807) := Lib.hid ⟨fun x hx => (hok2 x hx).1, fun x hx => (hok2 x hx).2⟩
        clear hpn hpi hp hr2 hok2 h84 y0 y1
        by_cases hp0 : p = 0
        · subst hp0
          have hwr : rowAt w4 2 1 (.slice ow mw cw) mw (natCells st.ways) := by have h9 := HPI.out.ways; have e9 := HM.out.1; (try dsimp only at h9); rw [e9] at h9; exact h9
          have HWR := Lib.hid hwr
          clear hwr
          go_wp2_with (at_builtin; refine wpList_append_one rfl (.tmp 22) (.tmp 23) 209 2 rfl Try.underlying209 info_i64 rfl (by omega) HWR.out (by omega) [.int .i64 (0)] rfl (HONE.out _) rfl rfl ?_; intro oa9 c9 w9 HRX HGX HOX)
          have hfin := PlI.way (x := 0) HPI.out HM.out.1.symm (by have h9 := HRX.out; exact h9) (by have h9 := HGX.out; exact h9) HOX.out
          have hst : plainStep st ⟨true, um⟩ = ⟨st.out ++ [0], st.ways ++ [0], r2⟩ := by unfold plainStep; rw [if_pos rfl, if_pos HPP.out.1, HPP.out.2]
          rw [← hst] at hfin
          exact ⟨HEND.out _ _ _ hfin, by simp [intOf]; omega⟩
        · have hpe : ((p : Int) == 0) = false := by simp; omega
          have hol2 : (st.out ++ [p]).length ≤ 1000000 := by simp; omega
          by_cases hpos : 0 < um
          · have hd : decide ((0 : Int) < (um : Int)) = true := decide_eq_true (by omega)
            go_wp2_with fail
            refine (pnext_b HPI.out.picks HPI.out.out HPI.out.ne HPI.out.b3.1 HPI.out.b4.1 HPI.out.b3.2 HPI.out.b4.2 HPI.out.size hol2 HOK2.out.1 (um + 1) (by omega) (by omega) HOK2.out.2 (by omega)).mono ?_
            rintro e w5 hpn
            obtain rfl := hpn.ret
            have hpi := HPI.out.pick rfl hpn
            have hplt2 := nextP_lt (um + 1) r2 (by omega)
            obtain ⟨p2, hp2⟩ : ∃ p, (nextP (um + 1) r2).1 = p := ⟨_, rfl⟩
            rw [hp2] at hpi hplt2 ⊢
            have HPI2 := Lib.hid hpi
            have HPP2 := Lib.hid hp2
            clear hpn hpi hp2
            have hwr : rowAt w5 2 1 (.slice ow mw cw) mw (natCells st.ways) := by have h9 := HPI2.out.ways; have e9 := HM.out.1; (try dsimp only at h9); rw [e9] at h9; exact h9
            have HWR := Lib.hid hwr
            clear hwr
            go_wp2_with (at_builtin; refine wpList_append_one rfl (.tmp 35) (.tmp 37) 209 2 rfl Try.underlying209 info_i64 rfl (by omega) HWR.out (by omega) [.int .i64 (1 + (p2 : Int))] rfl (HONE.out _) rfl rfl ?_; intro oa9 c9 w9 HRX HGX HOX)
            have hfin := PlI.way (x := (1 + p2)) HPI2.out HM.out.1.symm (by have h9 := HRX.out; rw [show (1 : Int) + (p2 : Int) = ((1 + p2 : Nat) : Int) by omega] at h9; exact h9) (by have h9 := HGX.out; rw [show (1 : Int) + (p2 : Int) = ((1 + p2 : Nat) : Int) by omega] at h9; exact h9) HOX.out
            have hst : plainStep st ⟨true, um⟩ = ⟨st.out ++ [p] ++ [p2], st.ways ++ [1 + p2], (nextP (um + 1) r2).2⟩ := by unfold plainStep; rw [if_pos rfl, if_neg (by rw [HPP.out.1]; exact hp0), if_pos hpos, HPP.out.2, HPP.out.1, HPP2.out]
            rw [← hst] at hfin
            exact ⟨HEND.out _ _ _ hfin, by simp [intOf]; omega⟩
          · have hd : decide ((0 : Int) < (um : Int)) = false := decide_eq_false (by omega)
            have hwr : rowAt w4 2 1 (.slice ow mw cw) mw (natCells st.ways) := by have h9 := HPI.out.ways; have e9 := HM.out.1; (try dsimp only at h9); rw [e9] at h9; exact h9
            have HWR := Lib.hid hwr
            clear hwr
            go_wp2_with (at_builtin; refine wpList_append_one rfl (.tmp 35) (.tmp 37) 209 2 rfl Try.underlying209 info_i64 rfl (by omega) HWR.out (by omega) [.int .i64 (1)] rfl (HONE.out _) rfl rfl ?_; intro oa9 c9 w9 HRX HGX HOX)
            have hfin := PlI.way (x := 1) HPI.out HM.out.1.symm (by have h9 := HRX.out; exact h9) (by have h9 := HGX.out; exact h9) HOX.out
            have hst : plainStep st ⟨true, um⟩ = ⟨st.out ++ [p], st.ways ++ [1], r2⟩ := by unfold plainStep; rw [if_pos rfl, if_neg (by rw [HPP.out.1]; exact hp0), if_neg hpos, HPP.out.2, HPP.out.1]
            rw [← hst] at hfin
            exact ⟨HEND.out _ _ _ hfin, by simp [intOf]; omega⟩
    · obtain rfl : j = n := by omega
      have hpl : plainT (l.take j) ps = plainT l ps := by rw [List.take_of_length_le (by rw [HN.out]; exact Nat.le_refl _)]
      rw [hpl] at HM HI
      obtain ⟨o4, c4, hq, hq2, _⟩ := HI.out.out
      obtain ⟨m4, hm4⟩ : ∃ m, (plainT l ps).out.length = m := ⟨_, rfl⟩
      rw [hm4] at hq hq2
      have d4 : wr.cell? ⟨b4, 0, none⟩ = some (.slice o4 m4 c4) := cell_of hq rfl
      have f4 : wr.frozen? ⟨b4, 0, none⟩ = false := free_of hq _
      have HQ := Lib.hid (And.intro hq (And.intro hq2 hm4))
      clear hq hq2 hm4 hpl
      go_wp2_with fail
      have hq4 : (wr.setCell ⟨b4, 0, none⟩ (.slice o4 m4 c4)).heap[b4]? = some (.cells #[.slice o4 m4 c4] 32 (0, 0)) := heap_setCell_here _ HQ.out.1
      have hrr := cell_of (i := 0) (v := .slice o4 m4 c4) hq4 rfl
      have hoth : ∀ k, k ≠ b4 → (wr.setCell ⟨b4, 0, none⟩ (.slice o4 m4 c4)).heap[k]? = wr.heap[k]? := fun k hk => Below.heap_setCell _ _ _ _ (fun e => hk e)
      rw [Exit.noGoto_ret]
      refine bodyPost_ret (v := .tuple #[.slice o4 m4 c4, .slice ow mw cw]) (by simp [results, Try.results137, go_sem, hrr]) rfl ?_
      have hwy := HI.out.ways
      rw [HM.out.1] at hwy
      refine ⟨o4, m4, c4, ow, mw, cw, rfl, HQ.out.2.2, HM.out.1, (HQ.out.2.1.kept (fun k hk => hoth k (fun e => ?_))).read, (hwy.kept (fun k hk => hoth k (fun e => ?_))).read, HI.out.below.setCell (p := ⟨b4, 0, none⟩) HI.out.b4.1 _⟩
      · rw [e] at hk
        exact absurd (row_type HQ.out.2.1 hk HQ.out.1) (by decide)
      · rw [e] at hk
        exact absurd (row_type hwy hk HQ.out.1) (by decide)
end Go.Proofs.Ytmkjejngnahpeaa
