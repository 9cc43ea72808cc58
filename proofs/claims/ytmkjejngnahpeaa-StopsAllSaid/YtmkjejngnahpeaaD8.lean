/- The texts Jk in one. -/
import Derived.Test.YtmkjejngnahpeaaC1
/- stops: of: the plain picks of files' ways. -/
namespace Go.Proofs.Ytmkjejngnahpeaa
open Go Go.Maps Go.RowKit

/-- a row in blocks that are new since w0 -/
structure NewR (e : TypeId) (size : Nat) (w0 W : World) (v : Value) (n : Nat) (xs : List Value) : Prop where
  row : rowAt W e size v n xs
  own : ∀ k, v.ownBlock = some k → w0.heap.size ≤ k
  below : Below w0.heap.size w0 W
theorem NewR.nil {e : TypeId} {size : Nat} {w0 W : World} (h : Below w0.heap.size w0 W) : NewR e size w0 W (.slice none 0 0) 0 [] := ⟨⟨by simp, .inl ⟨rfl, rfl⟩⟩, fun k hk => by simp [Value.ownBlock] at hk, h⟩
theorem NewR.kept {e : TypeId} {size : Nat} {w0 W W' : World} {v : Value} {n : Nat} {xs : List Value} (h : NewR e size w0 W v n xs) (hb : Below W.heap.size W W') : NewR e size w0 W' v n xs :=
  ⟨h.row.kept (fun k hk => hb.block k (h.row.lt k hk)), h.own, h.below.trans (hb.mono h.below.size)⟩
theorem wpList_append_new {w0 w2 : World} {ops : Array Oper} {rest : List Oper} {o : Oper} {a : Act} {Q : Exit → Act → World → Prop} (hgd : o.guard = none) (s x : Operand) (t e : TypeId)
    (ho : o.op = .call { callee := .builtin .append, args := #[s, x], argTypes := #[t, t] }) {z : Value} {size bytes : Nat} (ht : Try.prog.underlying t = some (.slice e)) (hinfo : (Try.prog.info? e).map (fun i => (i.zero, i.size, i.bytes)) = some (some z, size, bytes)) (hzs : z.cells.size = size) (hby : bytes ≤ 1000)
    {oa : Option Addr} {m c : Nat} {xs : List Value} (h : NewR e size w0 w2 (.slice oa m c) m xs) (hm : m ≤ 1000000) (ys : List Value) (hy : ys.length = size) (h1 : ∀ v ∈ ys, v.oneCell' = true)
    (hs : a.eval s = .slice oa m c) (hx : a.eval x = .slice (some ⟨w2.heap.size, 0, none⟩) 1 1)
    (hK : ∀ oa3 c3 w3, Hid (NewR e size w0 w3 (.slice oa3 (m + 1) c3) (m + 1) (xs ++ ys)) → Hid (KeepT [e] w2 w3) → wpList Try.prog ops Q rest (a.put o.dst (.slice oa3 (m + 1) c3)) w3) :
    wpList Try.prog ops Q (o :: rest) a (w2.alloc (.cells ys.toArray e)) := by
  refine wpList_append_one hgd s x t e ho ht hinfo hzs hby h.row hm ys hy h1 hs hx fun oa3 c3 w3 hr hg hw => hK oa3 c3 w3 (Lib.hid ⟨hr.out, fun k hk => ?_, ?_⟩) (Lib.hid ?_)
  · rcases hw.out with h2 | h2
    · exact h.own k (by rw [← h2]; exact hk)
    · rw [hk] at h2
      simp only [Option.some.injEq] at h2
      have := h.below.size
      omega
  · have hal := (h.below.alloc (by have := h.below.size; omega) (.cells ys.toArray e))
    exact hal.grown hg.out hal.size (fun k hk => h.own k hk)
  · have hal : Below w2.heap.size w2 (w2.alloc (.cells ys.toArray e)) := (Below.refl _ _).alloc (Nat.le_refl _) _
    exact (KeepT.of hal).trans (KeepT.grown (h.row.kept (fun k hk => hal.block k (h.row.lt k hk))) (by simp) hg.out)
def ofStep (out : List Nat) (u : U0) (x : Nat) : List Nat :=
  if u.name = true then
    if x = 0 then out ++ [0]
    else if 0 < u.more then out ++ [1] ++ [x - 1] else out ++ [1]
  else if 0 < u.more then out ++ [x] else out
/-- the plain picks of files' ways -/
def ofT : List U0 → List Nat → List Nat → List Nat
  | u :: l, x :: r, out => ofT l r (ofStep out u x)
  | _, _, out => out
theorem ofT_succ : ∀ (l : List U0) (r out : List Nat) (j : Nat) (h : j < l.length) (h2 : j < r.length), ofT (l.take (j + 1)) (r.take (j + 1)) out = ofStep (ofT (l.take j) (r.take j) out) l[j] r[j]
  | u :: l, x :: r, out, 0, _, _ => by simp [ofT]
  | u :: l, x :: r, out, j + 1, h, h2 => by
    show ofT (l.take (j + 1)) (r.take (j + 1)) (ofStep out u x) = _
    rw [ofT_succ l r (ofStep out u x) j (by simpa using h) (by simpa using h2)]
    rfl
theorem ofStep_len (out : List Nat) (u : U0) (x : Nat) : (ofStep out u x).length ≤ out.length + 2 := by
  unfold ofStep
  split
  · split
    · simp
    · split <;> simp
  · split <;> simp
set_option maxRecDepth 100000 in
set_option maxHeartbeats 4000000 in
theorem of_b {w : World} {oa : Option Addr} {n c : Nat} {l : List U0} (hn : l.length = n) (h : readAt w 2 (.slice oa n c) n (uCells l)) (hm : n ≤ 4096) (hsm : ∀ u ∈ l, u.more ≤ 16777216)
    {op : Option Addr} {cp : Nat} {ws : List Nat} (hnw : ws.length = n) (hw : readAt w 1 (.slice op n cp) n (natCells ws)) (hws : ∀ x ∈ ws, x ≤ 4611686018427387904) :
    Calls Try.prog 140 #[.slice oa n c, .slice op n cp] w fun e w' => ∃ o1 m1 c1, e = .returned (.slice o1 m1 c1) ∧ (ofT l ws []).length = m1 ∧ NewR 3 1 w w' (.slice o1 m1 c1) m1 (natCells (ofT l ws [])) := by
  have HR := Lib.hid (And.intro hn (And.intro h hsm))
  have HW := Lib.hid (And.intro hnw (And.intro hw hws))
  have hone : ∀ (x : Int), ∀ v ∈ ([.int .i64 x] : List Value), v.oneCell' = true := fun x v hv => by
    rw [List.mem_singleton] at hv
    subst hv
    rfl
  have HONE := Lib.hid hone
  clear h hn hsm hone hnw hw hws
  go_enter Try.func140, Try.ntmps140
  go_wp2_with fail
  go_loopw [5, 11] (fun so i wr => ∃ (j mo : Nat) (oo : Option Addr) (co : Nat), j ≤ n ∧ i = .int .i64 j ∧ so = .slice oo mo co ∧ Hid ((ofT (l.take j) (ws.take j) []).length = mo ∧ mo ≤ 2 * j) ∧ Hid (NewR 3 1 w wr (.slice oo mo co) mo (natCells (ofT (l.take j) (ws.take j) [])))) (fun _ i wr => n - (intOf i).toNat)
  case atStart => exact ⟨0, 0, none, 0, Nat.zero_le _, rfl, rfl, Lib.hid ⟨by simp [ofT], Nat.le_refl _⟩, Lib.hid (by simpa [ofT, natCells] using NewR.nil (e := 3) (size := 1) (Below.refl _ w))⟩
  case round =>
    obtain ⟨j, mo, oo, co, hj, rfl, rfl, HM, HI⟩ := hrel
    by_cases hlt : j < n
    · have hjl : j < l.length := by rw [HR.out.1]; exact hlt
      have hjw : j < ws.length := by rw [HW.out.1]; exact hlt
      have hrw : readAt wr 2 (.slice oa n c) n (uCells l) := HR.out.2.1.kept (fun k hl _ _ => HI.out.below.block k hl)
      have hrv : readAt wr 1 (.slice op n cp) n (natCells ws) := HW.out.2.1.kept (fun k hl _ _ => HI.out.below.block k hl)
      obtain ⟨g, off, rfl⟩ := hrw.addr (by omega)
      obtain ⟨g2, off2, rfl⟩ := hrv.addr (by omega)
      obtain ⟨u, hu⟩ : ∃ u, l[j] = u := ⟨_, rfl⟩
      obtain ⟨y, hy⟩ : ∃ y, ws[j] = y := ⟨_, rfl⟩
      have hum : u.more ≤ 16777216 := HR.out.2.2 u (by rw [← hu]; exact List.getElem_mem _)
      have hym : y ≤ 4611686018427387904 := HW.out.2.2 y (by rw [← hy]; exact List.getElem_mem _)
      obtain ⟨ub, hub⟩ : ∃ b, u.name = b := ⟨_, rfl⟩
      obtain ⟨um, humm⟩ : ∃ m, u.more = m := ⟨_, rfl⟩
      have k0 : wr.cell? ⟨g, off + j * 2, none⟩ = some (.bool ub) := us_cell (i := 0) hrw hjl (by omega) (by rw [hu, ← hub]; rfl)
      have k1 : wr.cell? ⟨g, off + j * 2 + 1, none⟩ = some (.int .i64 um) := us_cell (i := 1) hrw hjl (by omega) (by rw [hu, ← humm]; rfl)
      have k2 : wr.cell? ⟨g2, off2 + j, none⟩ = some (.int .i64 y) := hrv.cellAt (i := j) (by unfold natCells; rw [List.getElem?_map, List.getElem?_eq_getElem hjw, hy]; rfl)
      have hg2 : g2 < wr.heap.size := hrv.lt (by omega) g2 rfl
      have hue : u = ⟨ub, um⟩ := by rw [← hub, ← humm]
      rw [humm] at hum
      obtain ⟨st, hst⟩ : ∃ st, ofT (l.take j) (ws.take j) [] = st := ⟨_, rfl⟩
      rw [hst] at HM HI
      have HCS : Hid (ofT (l.take (j + 1)) (ws.take (j + 1)) [] = ofStep st ⟨ub, um⟩ y) := Lib.hid (by rw [ofT_succ l ws [] j hjl hjw, hst, hu, hue, hy])
      have hmo := HM.out.2
      clear hrw hrv hu hy hue hub humm hst
      go_upto_region 5 with fail
      obtain ⟨w3, hw3⟩ : ∃ W : World, W = wr.alloc (.cells #[.bool ub, .int .i64 um] 213) := ⟨_, rfl⟩
      obtain ⟨b7, hb7⟩ : ∃ b, b = wr.heap.size := ⟨_, rfl⟩
      have h3 : w3.heap[b7]? = some (.cells #[.bool ub, .int .i64 um] 213 (0, 0)) := by rw [hw3, hb7]; exact alloc_cells _ _ _
      have hbl3 : Below wr.heap.size wr w3 := by rw [hw3]; exact (Below.refl _ _).alloc (Nat.le_refl _) _
      have HI3 := Lib.hid (HI.out.kept hbl3)
      have H3 := Lib.hid h3
      have y0 : w3.cell? ⟨b7, 0, none⟩ = some (.bool ub) := cell_of h3 rfl
      have y1 : w3.cell? ⟨b7, 1, none⟩ = some (.int .i64 um) := cell_of h3 rfl
      have k2' : w3.cell? ⟨g2, off2 + j, none⟩ = some (.int .i64 y) := (hbl3.cell (p := ⟨g2, off2 + j, none⟩) hg2).trans k2
      rw [← hw3, ← hb7]
      clear hw3 hb7 h3 hbl3 k0 k1 k2
      have HEND : Hid (∀ (wx : World) (oy : Option Addr) (my cy : Nat), my = (ofStep st ⟨ub, um⟩ y).length → NewR 3 1 w wx (.slice oy my cy) my (natCells (ofStep st ⟨ub, um⟩ y)) → ∃ (j' mo' : Nat) (oo' : Option Addr) (co' : Nat), j' ≤ n ∧ (Value.int .i64 ((j : Int) + 1)) = .int .i64 j' ∧ (Value.slice oy my cy) = .slice oo' mo' co' ∧ Hid ((ofT (l.take j') (ws.take j') []).length = mo' ∧ mo' ≤ 2 * j') ∧ Hid (NewR 3 1 w wx (.slice oo' mo' co') mo' (natCells (ofT (l.take j') (ws.take j') [])))) := Lib.hid (fun wx oy my cy hmy hpl => by
        have := ofStep_len st ⟨ub, um⟩ y
        have := HM.out
        exact ⟨j + 1, my, oy, cy, by omega, by simp, rfl, Lib.hid ⟨by rw [HCS.out]; exact hmy.symm, by omega⟩, Lib.hid (by rw [HCS.out]; exact hpl)⟩)
      cases ub
      · by_cases hpos : 0 < um
        · have hd : decide ((0 : Int) < (um : Int)) = true := decide_eq_true (by omega)
          have hs : ofStep st ⟨false, um⟩ y = st ++ [y] := by unfold ofStep; rw [if_neg (by simp), if_pos hpos]
          have HS := Lib.hid hs
          clear hs
          go_wp2_with (at_builtin; refine wpList_append_new rfl (.tmp 34) (.tmp 36) 32 3 rfl Try.underlying32 info_int rfl (by omega) HI3.out (by omega) [.int .i64 (y : Int)] rfl (HONE.out _) rfl rfl ?_; intro oa9 c9 w9 HN9 HK9)
          exact ⟨HEND.out _ _ _ _ (by rw [HS.out, List.length_append, HM.out.1]; rfl) (by rw [HS.out, natCells_append]; exact HN9.out), by simp [intOf]; omega⟩
        · have hd : decide ((0 : Int) < (um : Int)) = false := decide_eq_false (by omega)
          have hs : ofStep st ⟨false, um⟩ y = st := by unfold ofStep; rw [if_neg (by simp), if_neg hpos]
          have HS := Lib.hid hs
          clear hs
          go_wp2_with fail
          exact ⟨HEND.out _ _ _ _ (by rw [HS.out, HM.out.1]) (by rw [HS.out]; exact HI3.out), by simp [intOf]; omega⟩
      · by_cases hy0 : y = 0
        · subst hy0
          have hs : ofStep st ⟨true, um⟩ 0 = st ++ [0] := by unfold ofStep; rw [if_pos rfl, if_pos rfl]
          have HS := Lib.hid hs
          clear hs
          go_wp2_with (at_builtin; refine wpList_append_new rfl (.tmp 22) (.tmp 25) 32 3 rfl Try.underlying32 info_int rfl (by omega) HI3.out (by omega) [.int .i64 0] rfl (HONE.out _) rfl rfl ?_; intro oa9 c9 w9 HN9 HK9)
          exact ⟨HEND.out _ _ _ _ (by rw [HS.out, List.length_append, HM.out.1]; rfl) (by rw [HS.out, natCells_append]; exact HN9.out), by simp [intOf]; omega⟩
        · have hye : ((y : Int) == 0) = false := by simp; omega
          have hmin : min (y : Int) 1 = 1 := by omega
          obtain ⟨z, hz⟩ : ∃ z, y = z + 1 := ⟨y - 1, by omega⟩
          have hsub : (y : Int) - 1 = (z : Int) := by omega
          have HZ := Lib.hid hz
          clear hz
          by_cases hpos : 0 < um
          · have hd : decide ((0 : Int) < (um : Int)) = true := decide_eq_true (by omega)
            have hs : ofStep st ⟨true, um⟩ y = st ++ [1] ++ [z] := by unfold ofStep; rw [if_pos rfl, if_neg hy0, if_pos hpos, show y - 1 = z by have := HZ.out; omega]
            have HS := Lib.hid hs
            clear hs
            go_wp2_with (at_builtin; first | (refine wpList_append_new rfl (.tmp 22) (.tmp 25) 32 3 rfl Try.underlying32 info_int rfl (by omega) HI3.out (by omega) [.int .i64 1] rfl (HONE.out _) rfl rfl ?_; intro oa9 c9 w9 HN9 HK9; have h79 := (HK9.out b7 _ _ _ H3.out (by decide)).trans H3.out; have y19 : w9.cell? ⟨b7, 1, none⟩ = some (.int .i64 um) := cell_of h79 rfl; clear h79) | (refine wpList_append_new rfl (.tmp 34) (.tmp 36) 32 3 rfl Try.underlying32 info_int rfl (by omega) HN9.out (by omega) [.int .i64 (z : Int)] rfl (HONE.out _) rfl rfl ?_; intro oa8 c8 w8 HN8 HK8))
            exact ⟨HEND.out _ _ _ _ (by rw [HS.out]; simp only [List.length_append, HM.out.1]; rfl) (by rw [HS.out, natCells_append, natCells_append]; exact HN8.out), by simp [intOf]; omega⟩
          · have hd : decide ((0 : Int) < (um : Int)) = false := decide_eq_false (by omega)
            have hs : ofStep st ⟨true, um⟩ y = st ++ [1] := by unfold ofStep; rw [if_pos rfl, if_neg hy0, if_neg hpos]
            have HS := Lib.hid hs
            clear hs
            go_wp2_with (at_builtin; refine wpList_append_new rfl (.tmp 22) (.tmp 25) 32 3 rfl Try.underlying32 info_int rfl (by omega) HI3.out (by omega) [.int .i64 1] rfl (HONE.out _) rfl rfl ?_; intro oa9 c9 w9 HN9 HK9; have h79 := (HK9.out b7 _ _ _ H3.out (by decide)).trans H3.out; have y19 : w9.cell? ⟨b7, 1, none⟩ = some (.int .i64 um) := cell_of h79 rfl; clear h79)
            exact ⟨HEND.out _ _ _ _ (by rw [HS.out, List.length_append, HM.out.1]; rfl) (by rw [HS.out, natCells_append]; exact HN9.out), by simp [intOf]; omega⟩
    · obtain rfl : j = n := by omega
      have hpl : ofT (l.take j) (ws.take j) [] = ofT l ws [] := by rw [List.take_of_length_le (by rw [HR.out.1]; exact Nat.le_refl _), List.take_of_length_le (by rw [HW.out.1]; exact Nat.le_refl _)]
      rw [hpl] at HM HI
      go_wp2_with fail
      go_ret
      exact ⟨oo, mo, co, rfl, HM.out.1, HI.out⟩
end Go.Proofs.Ytmkjejngnahpeaa
