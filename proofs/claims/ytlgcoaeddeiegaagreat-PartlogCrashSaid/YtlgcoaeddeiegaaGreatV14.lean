/- The texts Zb in one. -/
import Derived.Test.YtlgcoaeddeiegaaGreatV13
/- segment: look, with the closures of Look and of Open; bytesOf; Sync. -/
namespace Go.Proofs.YtlgcoaeddeiegaaGreat
open Go Go.RowKit
attribute [local go_sem] Oper.semAt_some

set_option maxRecDepth 100000 in
set_option maxHeartbeats 400000 in
theorem bytesOf_b {w : World} {S : Nat → Prop} {q : Nat} {d : Dk} {nm : ByteArray} {f : F0} (h : DiskAt w S q d) (hnm : nm.size ≤ 32) (hf : d.find nm.data.toList = some f) :
    Calls Tryz.prog 151 #[.pointer (some ⟨q, 0, none⟩), .string nm] w fun e w' => ∃ oa c, e = .returned (.tuple #[.slice oa f.bytes.length c, .int .i64 0]) ∧ rowAt w' 5 1 (.slice oa f.bytes.length c) f.bytes.length (byteCells f.bytes) ∧ (∀ k, (Value.slice oa f.bytes.length c).ownBlock = some k → w.heap.size ≤ k) ∧ Below w.heap.size w w' := by
  have hh := h.has hf
  have hr := read_b h nm (Nat.le_trans hnm (by decide)) 0 16777216 (by decide) (by decide)
  have e : d.read nm.data.toList 0 16777216 = (f.bytes, 0) := by
    unfold Dk.read
    rw [if_neg (by rw [hh.2.2.1]; simp), hf]
    show (if _ then _ else _) = _
    rw [if_neg (by omega)]
    have e2 : min (16777216 : Int).toNat (f.bytes.length - (0 : Int).toNat) = f.bytes.length := by
      have := hh.2.2.2
      show min 16777216 (f.bytes.length - 0) = _
      omega
    rw [e2, Int.toNat_zero, List.drop_zero, List.take_length]
  rw [e] at hr
  have HR := Lib.hid hr
  clear h hf hh hr e
  go_enter Tryz.func151, Tryz.ntmps151
  go_wp2_with fail
  refine HR.out.mono ?_
  rintro e w1 ⟨v, rfl, hv, hvo, hb⟩
  obtain ⟨oa, c, rfl, -⟩ := hv.shape
  have HV := Lib.hid (And.intro hv (And.intro hvo hb))
  clear hv hvo hb
  go_wp2_with fail
  go_ret2
  exact ⟨oa, c, rfl, HV.out.1, HV.out.2.1, HV.out.2.2⟩
def foundV (n : Nat) (e : Nat) (z : Nat) (y : Int) : Value := .agg #[.int .i64 (n : Int), .int .i64 (e : Int), .int .i64 (z : Int), .int .i64 y]
def whyT (tl : List UInt8) : Int := if tl = [] then 150 else 151
def TypeKept (T : TypeId) (A B : World) : Prop := ∀ (k : Nat) (cs : Array Value) (fr : Nat × Nat), A.heap[k]? = some (Obj.cells cs T fr) → B.heap[k]? = A.heap[k]?
theorem TypeKept.of_below {T : TypeId} {A B : World} (h : Below A.heap.size A B) : TypeKept T A B := fun k _ _ hk => h.block k (Array.getElem?_eq_some_iff.1 hk).1
theorem rowAt.typed {w w' : World} {T : TypeId} {s n : Nat} {v : Value} {xs : List Value} (h : rowAt w T s v n xs) (hk : TypeKept T w w') : rowAt w' T s v n xs := by
  refine h.kept (fun k hk' => ?_)
  rcases h.2 with ⟨rfl, -⟩ | ⟨g, off, cap, cur, fr, rfl, hg, -⟩
  · simp [Value.ownBlock] at hk'
  · simp only [Value.ownBlock, Option.some.injEq] at hk'
    subst hk'
    exact hk g cur fr hg
structure LookI (w wr : World) (b6 b13 j bn : Nat) (L : List Bat) (oa : Option Addr) (n c : Nat) (D : List UInt8) (J : Nat → World → Prop) : Prop where
  f13 : wr.heap[b13]? = some (.cells #[.int .i64 (j : Int), .int .i64 ((bn + cntT (L.take j) : Nat) : Int), .int .i64 (posT L j : Int), .int .i64 0] 48 (0, 0))
  f6 : wr.heap[b6]? = some (.cells #[.int .i64 0, .int .i64 0, .int .i64 0, .int .i64 0] 48 (0, 0))
  row : rowAt wr 5 1 (.slice oa n c) n (byteCells D)
  j : J j wr
structure TellIs (w : World) (L : List Bat) (g : Nat) (cp : Array Value) (J : Nat → World → Prop) : Prop where
  start : ∀ W, Below w.heap.size w W → J 0 W
  kept : ∀ j A B, J j A → Only (fun k => w.heap.size ≤ k ∧ ∃ cs fr, A.heap[k]? = some (.cells cs 48 fr)) A B → J j B
  tell : ∀ j W (_ : j < L.length), J j W → Calls Tryz.prog g (#[.int .i64 (posT L j : Int), .int .i64 L[j].1] ++ cp) W fun e W' => (∃ v, e = .returned v) ∧ J (j + 1) W' ∧ W.heap.size ≤ W'.heap.size ∧ TypeKept 48 W W' ∧ TypeKept 5 W W'
set_option maxRecDepth 100000 in
set_option maxHeartbeats 4000000 in
theorem lookN_b {w : World} {S : Nat → Prop} {q bn : Nat} {d : Dk} {nm : ByteArray} {f : F0} {L : List Bat} {tl : List UInt8} {J : Nat → World → Prop} (h : DiskAt w S q d) (hnm : nm.size ≤ 32) (hok : okName nm.data.toList = true) (hbn : hnum (digs nm.data.toList) = bn) (hf : d.find nm.data.toList = some f) (hfb : f.bytes = batsT L ++ tl) (hgo : BatsOk L tl) (hch : Chain bn L) (hbl : bn ≤ 9007199254740992)
    (hT : TellIs w L 81 #[] J) :
    Calls Tryz.prog 80 #[.pointer (some ⟨q, 0, none⟩), .string nm, .func (.func 81) #[] #[]] w fun e w' => e = .returned (.tuple #[foundV L.length (bn + cntT L) (batsT L).length (whyT tl), .int .i64 0]) ∧ J L.length w' := by
  obtain ⟨w1, hw1⟩ : ∃ W : World, W = w.alloc (.cells #[.int .i64 0, .int .i64 0, .int .i64 0, .int .i64 0] 48) := ⟨_, rfl⟩
  obtain ⟨b6, hb6⟩ : ∃ b, b = w.heap.size := ⟨_, rfl⟩
  have g6 : w1.heap[b6]? = some (.cells #[.int .i64 0, .int .i64 0, .int .i64 0, .int .i64 0] 48 (0, 0)) := by rw [hw1, hb6]; exact alloc_cells _ _ _
  have hb1 : Below w.heap.size w w1 := by rw [hw1]; exact (Below.refl _ _).alloc (Nat.le_refl _) _
  have hsz := (h.has hf).2.2.2
  have hp := (parse_any nm w1 (Nat.le_trans hnm (by decide))).mono (fun e w' (hq : ParsePost nm e ∧ Below w1.heap.size w1 w') => And.intro (hq.1.1 hok) hq.2)
  rw [hbn] at hp
  obtain ⟨ex, hex⟩ : ∃ s, s = nm.extract 0 (nm.size - 15) := ⟨_, rfl⟩
  rw [← hex] at hp
  have HP := Lib.hid hp
  have H := Lib.hid (And.intro h (And.intro hnm (And.intro hf (And.intro hfb (And.intro hgo (And.intro hch hsz))))))
  have H1 := Lib.hid (And.intro g6 (And.intro hb1 hb6))
  have HT := Lib.hid hT
  clear h hnm hf hfb hgo hch hT hp g6 hb1 hok hbn hsz hex
  go_enter Tryz.func80, Tryz.ntmps80
  go_upto_region 1 with fail
  rw [← hw1, ← hb6]
  clear hw1 hb6
  go_wp2_with fail
  refine HP.out.mono ?_
  rintro e w2 ⟨rfl, hb2⟩
  have hb02 := H1.out.2.1.trans (hb2.mono H1.out.2.1.size)
  have HB := Lib.hid (bytesOf_b (H.out.1.belowS hb02) H.out.2.1 H.out.2.2.1)
  have H2 := Lib.hid (And.intro hb2 hb02)
  clear hb2 hb02 HP
  go_wp2_with fail
  refine HB.out.mono ?_
  rintro e w3 ⟨oa, c, rfl, hrow, hown, hb3⟩
  obtain ⟨n, hn⟩ : ∃ n, n = f.bytes.length := ⟨_, rfl⟩
  rw [← hn] at hrow hown ⊢
  obtain ⟨w4, hw4⟩ : ∃ W : World, W = w3.alloc (.cells #[.int .i64 0, .int .i64 (bn : Int), .int .i64 0, .int .i64 0] 48) := ⟨_, rfl⟩
  obtain ⟨b13, hb13⟩ : ∃ b, b = w3.heap.size := ⟨_, rfl⟩
  have hb34 : Below w3.heap.size w3 w4 := by rw [hw4]; exact (Below.refl _ _).alloc (Nat.le_refl _) _
  have g13 : w4.heap[b13]? = some (.cells #[.int .i64 0, .int .i64 (bn : Int), .int .i64 0, .int .i64 0] 48 (0, 0)) := by rw [hw4, hb13]; exact alloc_cells _ _ _
  have hb14 := H2.out.1.trans ((hb3.trans (hb34.mono hb3.size)).mono H2.out.1.size)
  have hb04 := H1.out.2.1.trans (hb14.mono H1.out.2.1.size)
  have g64 := (hb14.block b6 (Array.getElem?_eq_some_iff.1 H1.out.1).1).trans H1.out.1
  have H4 := Lib.hid (And.intro g13 (And.intro g64 (And.intro (hrow.kept (fun k hk => hb34.block k (hrow.lt k hk))) (And.intro hb04 (And.intro hn (And.intro (show w.heap.size ≤ b13 by rw [hb13]; have := hb04.size; have := hb34.size; have := H2.out.2.size; have := hb3.size; omega) (show b6 ≠ b13 by have := (Array.getElem?_eq_some_iff.1 H1.out.1).1; have := H2.out.1.size; have := hb3.size; omega)))))))
  have hnl : n ≤ 16777216 := by rw [hn]; exact H.out.2.2.2.2.2.2
  clear hrow hown hb3 hb34 g13 hb14 hb04 g64 hn HB
  go_upto_region 10 with fail
  rw [← hw4, ← hb13]
  clear hw4 hb13
  go_wp2_with fail
  go_loopg [] (L.length + 1) (fun g wr => ∃ j, j ≤ L.length ∧ g = L.length + 1 - j ∧ Hid (LookI w wr b6 b13 j bn L oa n c f.bytes J))
  case atStart => exact ⟨0, Nat.zero_le _, rfl, Lib.hid ⟨by rw [List.take_zero]; exact H4.out.1, H4.out.2.1, H4.out.2.2.1, HT.out.start _ H4.out.2.2.2.1⟩⟩
  case round =>
    obtain ⟨j, hj, hg, HI⟩ := hrel
    have hD : f.bytes = batsT L ++ tl := H.out.2.2.2.1
    have hpn : posT L j ≤ n := by
      have h1 := posT_le (L := L) (j := j)
      rw [H4.out.2.2.2.2.1, hD, List.length_append]
      omega
    obtain ⟨p, hp⟩ : ∃ p, p = posT L j := ⟨_, rfl⟩
    obtain ⟨E, hE⟩ : ∃ E : Int, E = ((bn + cntT (L.take j) : Nat) : Int) := ⟨_, rfl⟩
    have hcl : cntT (L.take j) ≤ 16777216 := by
      have h1 := cnt_long (L.take j)
      have h2 : (batsT (L.take j)).length ≤ (batsT L).length := by
        rw [bats_split L j, List.length_append]
        omega
      have h3 := H.out.2.2.2.2.2.2
      rw [hD, List.length_append] at h3
      omega
    have hEb : 0 ≤ E ∧ E ≤ 9007199271518208 := by omega
    have hjl : L.length ≤ 16777216 := by
      have h2 := bats_many L H.out.2.2.2.2.1.good
      have h3 := H.out.2.2.2.2.2.2
      rw [hD, List.length_append] at h3
      omega
    have g13 := HI.out.f13
    rw [← hp, ← hE] at g13
    rw [← hp] at hpn
    have c0 : wr.cell? ⟨b13, 0, none⟩ = some (.int .i64 (j : Int)) := cell_of g13 rfl
    have c1 : wr.cell? ⟨b13, 1, none⟩ = some (.int .i64 E) := cell_of g13 rfl
    have c2 : wr.cell? ⟨b13, 2, none⟩ = some (.int .i64 (p : Int)) := cell_of g13 rfl
    have HP := Lib.hid (And.intro hp hE)
    have HG := Lib.hid g13
    by_cases hlt : j < L.length
    · have hba := bats_at hlt tl
      rw [← hD, ← hp] at hba
      have hgood := H.out.2.2.2.2.1.good _ (List.getElem_mem hlt)
      have hlk := lookOk_b (n := n) (c := c) (oa := oa) H4.out.2.2.2.2.1.symm HI.out.row.read hpn (by omega) hba hgood
      have hbse := H.out.2.2.2.2.2.1.base j hlt
      have htl := fun W hJ => HT.out.tell j W hlt hJ
      have hcs := cntT_succ hlt
      have hps := posT_succ hlt
      obtain ⟨bb, hbb⟩ : ∃ b, b = L[j] := ⟨_, rfl⟩
      rw [← hbb] at hgood hlk hbse htl hcs hps
      rw [← hE] at hbse
      rw [hbse] at hlk
      simp only [← hp, hbse] at htl
      obtain ⟨cn, hcn⟩ : ∃ k, k = bb.2.length := ⟨_, rfl⟩
      obtain ⟨rz, hrz⟩ : ∃ k, k = rcsSize bb.2 := ⟨_, rfl⟩
      unfold lookOk at hlk
      rw [← hcn, ← hrz] at hlk
      have hcb : cn ≤ 256 ∧ rz ≤ 65536 := ⟨by rw [hcn]; exact hgood.len, by rw [hrz]; exact hgood.size⟩
      have HLK := Lib.hid hlk
      have HTL := Lib.hid htl
      have HB2 := Lib.hid (And.intro hcs (And.intro hps (And.intro hcn hrz)))
      have hne : (E != E) = false := by rw [bne_eq_false_iff_eq]
      clear hba hgood hlk hbse htl hcs hps hbb hp hE hcn hrz g13 hD
      go_wp2_with fail
      refine HLK.out.mono ?_
      rintro e w5 ⟨rfl, hb5⟩
      have hi5 : J j w5 := HT.out.kept _ _ _ HI.out.j (Only.of_below hb5 (Nat.le_refl _) _)
      have g5 := (hb5.block b13 (Array.getElem?_eq_some_iff.1 HG.out).1).trans HG.out
      have g65 := (hb5.block b6 (Array.getElem?_eq_some_iff.1 HI.out.f6).1).trans HI.out.f6
      have k0 : w5.cell? ⟨b13, 0, none⟩ = some (.int .i64 (j : Int)) := cell_of g5 rfl
      have k1 : w5.cell? ⟨b13, 1, none⟩ = some (.int .i64 E) := cell_of g5 rfl
      have k2 : w5.cell? ⟨b13, 2, none⟩ = some (.int .i64 (p : Int)) := cell_of g5 rfl
      have HTC := Lib.hid (HTL.out w5 hi5)
      have H5 := Lib.hid (And.intro g5 (And.intro g65 (HI.out.row.kept (fun k hk => hb5.block k (HI.out.row.lt k hk)))))
      clear hb5 hi5 g5 g65 c0 c1 c2 HLK HTL
      go_wp2_with fail
      refine HTC.out.mono ?_
      rintro e w6 ⟨⟨rv, rfl⟩, hj6, hs6, ht1, ht2⟩
      have g6' := (ht1 b13 _ _ H5.out.1).trans H5.out.1
      have g66 := (ht1 b6 _ _ H5.out.2.1).trans H5.out.2.1
      have l0 : w6.cell? ⟨b13, 0, none⟩ = some (.int .i64 (j : Int)) := cell_of g6' rfl
      have l1 : w6.cell? ⟨b13, 1, none⟩ = some (.int .i64 E) := cell_of g6' rfl
      have l2 : w6.cell? ⟨b13, 2, none⟩ = some (.int .i64 (p : Int)) := cell_of g6' rfl
      have z0 : w6.frozen? ⟨b13, 0, none⟩ = false := free_of g6' _
      have z1 : w6.frozen? ⟨b13, 1, none⟩ = false := free_of g6' _
      have z2 : w6.frozen? ⟨b13, 2, none⟩ = false := free_of g6' _
      have H6 := Lib.hid (And.intro g6' (And.intro g66 (And.intro (H5.out.2.2.typed ht2) hj6)))
      clear hj6 hs6 ht1 ht2 g6' g66 k0 k1 k2 HTC
      go_wp2_with fail
      obtain ⟨w7, hw7⟩ : ∃ W : World, W = ((w6.setCell ⟨b13, 0, none⟩ (.int .i64 ((j : Int) + 1))).setCell ⟨b13, 1, none⟩ (.int .i64 (E + (cn : Int)))).setCell ⟨b13, 2, none⟩ (.int .i64 ((p : Int) + (rz : Int))) := ⟨_, rfl⟩
      rw [← hw7]
      have g7 : w7.heap[b13]? = some (.cells #[.int .i64 ((j : Int) + 1), .int .i64 (E + (cn : Int)), .int .i64 ((p : Int) + (rz : Int)), .int .i64 0] 48 (0, 0)) := by
        rw [hw7]
        exact heap_setCell_here _ (heap_setCell_here _ (heap_setCell_here _ H6.out.1))
      have ho : Only (fun k => k = b13) w6 w7 := by
        rw [hw7]
        exact ((only_setCell (fun k => k = b13) _ b13 0 _ rfl).trans (only_setCell (fun k => k = b13) _ b13 1 _ rfl) (fun _ _ e => e)).trans (only_setCell (fun k => k = b13) _ b13 2 _ rfl) (fun _ _ e => e)
      have q1 : E + (cn : Int) = ((bn + cntT (L.take (j + 1)) : Nat) : Int) := by rw [HB2.out.1, HP.out.2, HB2.out.2.2.1]; omega
      have q2 : (p : Int) + (rz : Int) = (posT L (j + 1) : Int) := by rw [HB2.out.2.1, HP.out.1, HB2.out.2.2.2]; omega
      have q0 : (j : Int) + 1 = ((j + 1 : Nat) : Int) := by omega
      rw [q0, q1, q2] at g7
      have hnew : LookI w w7 b6 b13 (j + 1) bn L oa n c f.bytes J :=
        ⟨g7, (ho.block b6 (Array.getElem?_eq_some_iff.1 H6.out.2.1).1 H4.out.2.2.2.2.2.2).trans H6.out.2.1, H6.out.2.2.1.kept (fun k hk => ho.block k (H6.out.2.2.1.lt k hk) (fun e => by subst e; exact H6.out.2.2.1.notB H6.out.1 (by decide) hk)),
          HT.out.kept _ _ _ H6.out.2.2.2 (ho.mono (fun k _ e => by subst e; exact ⟨H4.out.2.2.2.2.2.1, _, _, H6.out.1⟩))⟩
      have HNEW := Lib.hid hnew
      clear hnew g7 ho q0 q1 q2 hw7
      go_roundg (L.length + 1 - (j + 1))
      case measure => omega
      case rel => exact ⟨j + 1, by omega, rfl, HNEW⟩
    · obtain rfl : L.length = j := by omega
      obtain ⟨M, hM⟩ : ∃ M, M = L.length := ⟨_, rfl⟩
      have hbe := bats_end L tl
      rw [← hD, ← hp] at hbe
      have hlk : Calls Tryz.prog 152 #[.slice oa n c, .int .i64 (p : Int)] wr fun e w' => e = .returned (lookNo (whyT tl)) ∧ Below wr.heap.size wr w' := by
        rcases H.out.2.2.2.2.1.rest with h0 | h0
        · unfold whyT
          rw [if_pos h0]
          exact lookEnd_b H4.out.2.2.2.2.1.symm HI.out.row.read hpn (by omega) (by rw [hbe]; exact h0)
        · unfold whyT
          rw [if_neg h0.1]
          exact lookTorn_b H4.out.2.2.2.2.1.symm HI.out.row.read hpn (by omega) (by rw [hbe]; exact h0)
      obtain ⟨wy, hwy⟩ : ∃ y, y = whyT tl := ⟨_, rfl⟩
      have hy0 : (wy == 0) = false ∧ (wy != 0) = true := by
        rw [hwy]
        unfold whyT
        split <;> decide
      rw [← hwy] at hlk
      unfold lookNo at hlk
      have hy1 := hy0.1
      have hy2 := hy0.2
      have HLK := Lib.hid hlk
      have HWY := Lib.hid hwy
      clear hbe hlk hwy hy0 hp hE hD g13 hlt hj hg
      go_wp2_with fail
      refine HLK.out.mono ?_
      rintro e w5 ⟨rfl, hb5⟩
      have hi5 : J L.length w5 := HT.out.kept _ _ _ HI.out.j (Only.of_below hb5 (Nat.le_refl _) _)
      have g5 := (hb5.block b13 (Array.getElem?_eq_some_iff.1 HG.out).1).trans HG.out
      have g65 := (hb5.block b6 (Array.getElem?_eq_some_iff.1 HI.out.f6).1).trans HI.out.f6
      rw [← hM] at g5
      have k3 : w5.cell? ⟨b13, 3, none⟩ = some (.int .i64 0) := cell_of g5 rfl
      have z3 : w5.frozen? ⟨b13, 3, none⟩ = false := free_of g5 _
      have H5 := Lib.hid (And.intro g5 (And.intro g65 hi5))
      clear hb5 hi5 g5 g65 c0 c1 c2 HLK
      go_upto_region 15 with fail
      obtain ⟨w6, hw6⟩ : ∃ W : World, W = w5.setCell ⟨b13, 3, none⟩ (.int .i64 wy) := ⟨_, rfl⟩
      rw [← hw6]
      have g6' : w6.heap[b13]? = some (.cells #[.int .i64 (M : Int), .int .i64 E, .int .i64 (p : Int), .int .i64 wy] 48 (0, 0)) := by rw [hw6]; exact heap_setCell_here _ H5.out.1
      have ho : Only (fun k => k = b13) w5 w6 := by rw [hw6]; exact only_setCell (fun k => k = b13) _ b13 3 _ rfl
      have g66 := (ho.block b6 (Array.getElem?_eq_some_iff.1 H5.out.2.1).1 H4.out.2.2.2.2.2.2).trans H5.out.2.1
      have hj6 : J L.length w6 := HT.out.kept _ _ _ H5.out.2.2 (ho.mono (fun k _ e => by subst e; exact ⟨H4.out.2.2.2.2.2.1, _, _, H5.out.1⟩))
      have l0 : w6.cell? ⟨b13, 0, none⟩ = some (.int .i64 (M : Int)) := cell_of g6' rfl
      have l1 : w6.cell? ⟨b13, 1, none⟩ = some (.int .i64 E) := cell_of g6' rfl
      have l2 : w6.cell? ⟨b13, 2, none⟩ = some (.int .i64 (p : Int)) := cell_of g6' rfl
      have l3 : w6.cell? ⟨b13, 3, none⟩ = some (.int .i64 wy) := cell_of g6' rfl
      have y0 : w6.cell? ⟨b6, 0, none⟩ = some (.int .i64 0) := cell_of g66 rfl
      have y1 : w6.cell? ⟨b6, 1, none⟩ = some (.int .i64 0) := cell_of g66 rfl
      have y2 : w6.cell? ⟨b6, 2, none⟩ = some (.int .i64 0) := cell_of g66 rfl
      have y3 : w6.cell? ⟨b6, 3, none⟩ = some (.int .i64 0) := cell_of g66 rfl
      have v0 : w6.frozen? ⟨b6, 0, none⟩ = false := free_of g66 _
      have v1 : w6.frozen? ⟨b6, 1, none⟩ = false := free_of g66 _
      have v2 : w6.frozen? ⟨b6, 2, none⟩ = false := free_of g66 _
      have v3 : w6.frozen? ⟨b6, 3, none⟩ = false := free_of g66 _
      have H6 := Lib.hid (And.intro g66 hj6)
      clear hw6 g6' ho g66 hj6 k3 z3
      go_wp2_with fail
      obtain ⟨w7, hw7⟩ : ∃ W : World, W = (((w6.setCell ⟨b6, 0, none⟩ (.int .i64 (L.length : Int))).setCell ⟨b6, 1, none⟩ (.int .i64 E)).setCell ⟨b6, 2, none⟩ (.int .i64 (p : Int))).setCell ⟨b6, 3, none⟩ (.int .i64 wy) := ⟨_, rfl⟩
      rw [← hw7]
      have g7 : w7.heap[b6]? = some (.cells #[.int .i64 (L.length : Int), .int .i64 E, .int .i64 (p : Int), .int .i64 wy] 48 (0, 0)) := by
        rw [hw7]
        exact heap_setCell_here _ (heap_setCell_here _ (heap_setCell_here _ (heap_setCell_here _ H6.out.1)))
      have ho7 : Only (fun k => k = b6) w6 w7 := by
        rw [hw7]
        exact (((only_setCell (fun k => k = b6) _ b6 0 _ rfl).trans (only_setCell (fun k => k = b6) _ b6 1 _ rfl) (fun _ _ e => e)).trans (only_setCell (fun k => k = b6) _ b6 2 _ rfl) (fun _ _ e => e)).trans (only_setCell (fun k => k = b6) _ b6 3 _ rfl) (fun _ _ e => e)
      have r0 := cell_of (i := 0) g7 rfl
      have r1 := cell_of (i := 1) g7 rfl
      have r2 := cell_of (i := 2) g7 rfl
      have r3 := cell_of (i := 3) g7 rfl
      refine bodyPost_ret (v := .tuple #[.agg #[.int .i64 (L.length : Int), .int .i64 E, .int .i64 (p : Int), .int .i64 wy], .int .i64 0]) (by simp [results, Tryz.results80, go_sem, r0, r1, r2, r3]) rfl ⟨?_, ?_⟩
      · unfold foundV
        rw [HP.out.2, HP.out.1, HWY.out, List.take_length, posT_all]
      · exact HT.out.kept _ _ _ H6.out.2 (ho7.mono (fun k _ e => by subst e; exact ⟨by have := H1.out.2.2; omega, _, _, H6.out.1⟩))
set_option maxRecDepth 100000 in
set_option maxHeartbeats 4000000 in
theorem lookA_b {w : World} {S : Nat → Prop} {q bn : Nat} {d : Dk} {nm : ByteArray} {f : F0} {L : List Bat} {tl : List UInt8} {J : Nat → World → Prop} (b11 : Nat) (h : DiskAt w S q d) (hnm : nm.size ≤ 32) (hok : okName nm.data.toList = true) (hbn : hnum (digs nm.data.toList) = bn) (hf : d.find nm.data.toList = some f) (hfb : f.bytes = batsT L ++ tl) (hgo : BatsOk L tl) (hch : Chain bn L) (hbl : bn ≤ 9007199254740992)
    (hT : TellIs w L 142 #[.pointer (some ⟨b11, 0, none⟩)] J) :
    Calls Tryz.prog 80 #[.pointer (some ⟨q, 0, none⟩), .string nm, .func (.func 142) #[] #[.pointer (some ⟨b11, 0, none⟩)]] w fun e w' => e = .returned (.tuple #[foundV L.length (bn + cntT L) (batsT L).length (whyT tl), .int .i64 0]) ∧ J L.length w' := by
  obtain ⟨w1, hw1⟩ : ∃ W : World, W = w.alloc (.cells #[.int .i64 0, .int .i64 0, .int .i64 0, .int .i64 0] 48) := ⟨_, rfl⟩
  obtain ⟨b6, hb6⟩ : ∃ b, b = w.heap.size := ⟨_, rfl⟩
  have g6 : w1.heap[b6]? = some (.cells #[.int .i64 0, .int .i64 0, .int .i64 0, .int .i64 0] 48 (0, 0)) := by rw [hw1, hb6]; exact alloc_cells _ _ _
  have hb1 : Below w.heap.size w w1 := by rw [hw1]; exact (Below.refl _ _).alloc (Nat.le_refl _) _
  have hsz := (h.has hf).2.2.2
  have hp := (parse_any nm w1 (Nat.le_trans hnm (by decide))).mono (fun e w' (hq : ParsePost nm e ∧ Below w1.heap.size w1 w') => And.intro (hq.1.1 hok) hq.2)
  rw [hbn] at hp
  obtain ⟨ex, hex⟩ : ∃ s, s = nm.extract 0 (nm.size - 15) := ⟨_, rfl⟩
  rw [← hex] at hp
  have HP := Lib.hid hp
  have H := Lib.hid (And.intro h (And.intro hnm (And.intro hf (And.intro hfb (And.intro hgo (And.intro hch hsz))))))
  have H1 := Lib.hid (And.intro g6 (And.intro hb1 hb6))
  have HT := Lib.hid hT
  clear h hnm hf hfb hgo hch hT hp g6 hb1 hok hbn hsz hex
  go_enter Tryz.func80, Tryz.ntmps80
  go_upto_region 1 with fail
  rw [← hw1, ← hb6]
  clear hw1 hb6
  go_wp2_with fail
  refine HP.out.mono ?_
  rintro e w2 ⟨rfl, hb2⟩
  have hb02 := H1.out.2.1.trans (hb2.mono H1.out.2.1.size)
  have HB := Lib.hid (bytesOf_b (H.out.1.belowS hb02) H.out.2.1 H.out.2.2.1)
  have H2 := Lib.hid (And.intro hb2 hb02)
  clear hb2 hb02 HP
  go_wp2_with fail
  refine HB.out.mono ?_
  rintro e w3 ⟨oa, c, rfl, hrow, hown, hb3⟩
  obtain ⟨n, hn⟩ : ∃ n, n = f.bytes.length := ⟨_, rfl⟩
  rw [← hn] at hrow hown ⊢
  obtain ⟨w4, hw4⟩ : ∃ W : World, W = w3.alloc (.cells #[.int .i64 0, .int .i64 (bn : Int), .int .i64 0, .int .i64 0] 48) := ⟨_, rfl⟩
  obtain ⟨b13, hb13⟩ : ∃ b, b = w3.heap.size := ⟨_, rfl⟩
  have hb34 : Below w3.heap.size w3 w4 := by rw [hw4]; exact (Below.refl _ _).alloc (Nat.le_refl _) _
  have g13 : w4.heap[b13]? = some (.cells #[.int .i64 0, .int .i64 (bn : Int), .int .i64 0, .int .i64 0] 48 (0, 0)) := by rw [hw4, hb13]; exact alloc_cells _ _ _
  have hb14 := H2.out.1.trans ((hb3.trans (hb34.mono hb3.size)).mono H2.out.1.size)
  have hb04 := H1.out.2.1.trans (hb14.mono H1.out.2.1.size)
  have g64 := (hb14.block b6 (Array.getElem?_eq_some_iff.1 H1.out.1).1).trans H1.out.1
  have H4 := Lib.hid (And.intro g13 (And.intro g64 (And.intro (hrow.kept (fun k hk => hb34.block k (hrow.lt k hk))) (And.intro hb04 (And.intro hn (And.intro (show w.heap.size ≤ b13 by rw [hb13]; have := hb04.size; have := hb34.size; have := H2.out.2.size; have := hb3.size; omega) (show b6 ≠ b13 by have := (Array.getElem?_eq_some_iff.1 H1.out.1).1; have := H2.out.1.size; have := hb3.size; omega)))))))
  have hnl : n ≤ 16777216 := by rw [hn]; exact H.out.2.2.2.2.2.2
  clear hrow hown hb3 hb34 g13 hb14 hb04 g64 hn HB
  go_upto_region 10 with fail
  rw [← hw4, ← hb13]
  clear hw4 hb13
  go_wp2_with fail
  go_loopg [] (L.length + 1) (fun g wr => ∃ j, j ≤ L.length ∧ g = L.length + 1 - j ∧ Hid (LookI w wr b6 b13 j bn L oa n c f.bytes J))
  case atStart => exact ⟨0, Nat.zero_le _, rfl, Lib.hid ⟨by rw [List.take_zero]; exact H4.out.1, H4.out.2.1, H4.out.2.2.1, HT.out.start _ H4.out.2.2.2.1⟩⟩
  case round =>
    obtain ⟨j, hj, hg, HI⟩ := hrel
    have hD : f.bytes = batsT L ++ tl := H.out.2.2.2.1
    have hpn : posT L j ≤ n := by
      have h1 := posT_le (L := L) (j := j)
      rw [H4.out.2.2.2.2.1, hD, List.length_append]
      omega
    obtain ⟨p, hp⟩ : ∃ p, p = posT L j := ⟨_, rfl⟩
    obtain ⟨E, hE⟩ : ∃ E : Int, E = ((bn + cntT (L.take j) : Nat) : Int) := ⟨_, rfl⟩
    have hcl : cntT (L.take j) ≤ 16777216 := by
      have h1 := cnt_long (L.take j)
      have h2 : (batsT (L.take j)).length ≤ (batsT L).length := by
        rw [bats_split L j, List.length_append]
        omega
      have h3 := H.out.2.2.2.2.2.2
      rw [hD, List.length_append] at h3
      omega
    have hEb : 0 ≤ E ∧ E ≤ 9007199271518208 := by omega
    have hjl : L.length ≤ 16777216 := by
      have h2 := bats_many L H.out.2.2.2.2.1.good
      have h3 := H.out.2.2.2.2.2.2
      rw [hD, List.length_append] at h3
      omega
    have g13 := HI.out.f13
    rw [← hp, ← hE] at g13
    rw [← hp] at hpn
    have c0 : wr.cell? ⟨b13, 0, none⟩ = some (.int .i64 (j : Int)) := cell_of g13 rfl
    have c1 : wr.cell? ⟨b13, 1, none⟩ = some (.int .i64 E) := cell_of g13 rfl
    have c2 : wr.cell? ⟨b13, 2, none⟩ = some (.int .i64 (p : Int)) := cell_of g13 rfl
    have HP := Lib.hid (And.intro hp hE)
    have HG := Lib.hid g13
    by_cases hlt : j < L.length
    · have hba := bats_at hlt tl
      rw [← hD, ← hp] at hba
      have hgood := H.out.2.2.2.2.1.good _ (List.getElem_mem hlt)
      have hlk := lookOk_b (n := n) (c := c) (oa := oa) H4.out.2.2.2.2.1.symm HI.out.row.read hpn (by omega) hba hgood
      have hbse := H.out.2.2.2.2.2.1.base j hlt
      have htl := fun W hJ => HT.out.tell j W hlt hJ
      have hcs := cntT_succ hlt
      have hps := posT_succ hlt
      obtain ⟨bb, hbb⟩ : ∃ b, b = L[j] := ⟨_, rfl⟩
      rw [← hbb] at hgood hlk hbse htl hcs hps
      rw [← hE] at hbse
      rw [hbse] at hlk
      simp only [← hp, hbse] at htl
      obtain ⟨cn, hcn⟩ : ∃ k, k = bb.2.length := ⟨_, rfl⟩
      obtain ⟨rz, hrz⟩ : ∃ k, k = rcsSize bb.2 := ⟨_, rfl⟩
      unfold lookOk at hlk
      rw [← hcn, ← hrz] at hlk
      have hcb : cn ≤ 256 ∧ rz ≤ 65536 := ⟨by rw [hcn]; exact hgood.len, by rw [hrz]; exact hgood.size⟩
      have HLK := Lib.hid hlk
      have HTL := Lib.hid htl
      have HB2 := Lib.hid (And.intro hcs (And.intro hps (And.intro hcn hrz)))
      have hne : (E != E) = false := by rw [bne_eq_false_iff_eq]
      clear hba hgood hlk hbse htl hcs hps hbb hp hE hcn hrz g13 hD
      go_wp2_with fail
      refine HLK.out.mono ?_
      rintro e w5 ⟨rfl, hb5⟩
      have hi5 : J j w5 := HT.out.kept _ _ _ HI.out.j (Only.of_below hb5 (Nat.le_refl _) _)
      have g5 := (hb5.block b13 (Array.getElem?_eq_some_iff.1 HG.out).1).trans HG.out
      have g65 := (hb5.block b6 (Array.getElem?_eq_some_iff.1 HI.out.f6).1).trans HI.out.f6
      have k0 : w5.cell? ⟨b13, 0, none⟩ = some (.int .i64 (j : Int)) := cell_of g5 rfl
      have k1 : w5.cell? ⟨b13, 1, none⟩ = some (.int .i64 E) := cell_of g5 rfl
      have k2 : w5.cell? ⟨b13, 2, none⟩ = some (.int .i64 (p : Int)) := cell_of g5 rfl
      have HTC := Lib.hid (HTL.out w5 hi5)
      have H5 := Lib.hid (And.intro g5 (And.intro g65 (HI.out.row.kept (fun k hk => hb5.block k (HI.out.row.lt k hk)))))
      clear hb5 hi5 g5 g65 c0 c1 c2 HLK HTL
      go_wp2_with fail
      refine HTC.out.mono ?_
      rintro e w6 ⟨⟨rv, rfl⟩, hj6, hs6, ht1, ht2⟩
      have g6' := (ht1 b13 _ _ H5.out.1).trans H5.out.1
      have g66 := (ht1 b6 _ _ H5.out.2.1).trans H5.out.2.1
      have l0 : w6.cell? ⟨b13, 0, none⟩ = some (.int .i64 (j : Int)) := cell_of g6' rfl
      have l1 : w6.cell? ⟨b13, 1, none⟩ = some (.int .i64 E) := cell_of g6' rfl
      have l2 : w6.cell? ⟨b13, 2, none⟩ = some (.int .i64 (p : Int)) := cell_of g6' rfl
      have z0 : w6.frozen? ⟨b13, 0, none⟩ = false := free_of g6' _
      have z1 : w6.frozen? ⟨b13, 1, none⟩ = false := free_of g6' _
      have z2 : w6.frozen? ⟨b13, 2, none⟩ = false := free_of g6' _
      have H6 := Lib.hid (And.intro g6' (And.intro g66 (And.intro (H5.out.2.2.typed ht2) hj6)))
      clear hj6 hs6 ht1 ht2 g6' g66 k0 k1 k2 HTC
      go_wp2_with fail
      obtain ⟨w7, hw7⟩ : ∃ W : World, W = ((w6.setCell ⟨b13, 0, none⟩ (.int .i64 ((j : Int) + 1))).setCell ⟨b13, 1, none⟩ (.int .i64 (E + (cn : Int)))).setCell ⟨b13, 2, none⟩ (.int .i64 ((p : Int) + (rz : Int))) := ⟨_, rfl⟩
      rw [← hw7]
      have g7 : w7.heap[b13]? = some (.cells #[.int .i64 ((j : Int) + 1), .int .i64 (E + (cn : Int)), .int .i64 ((p : Int) + (rz : Int)), .int .i64 0] 48 (0, 0)) := by
        rw [hw7]
        exact heap_setCell_here _ (heap_setCell_here _ (heap_setCell_here _ H6.out.1))
      have ho : Only (fun k => k = b13) w6 w7 := by
        rw [hw7]
        exact ((only_setCell (fun k => k = b13) _ b13 0 _ rfl).trans (only_setCell (fun k => k = b13) _ b13 1 _ rfl) (fun _ _ e => e)).trans (only_setCell (fun k => k = b13) _ b13 2 _ rfl) (fun _ _ e => e)
      have q1 : E + (cn : Int) = ((bn + cntT (L.take (j + 1)) : Nat) : Int) := by rw [HB2.out.1, HP.out.2, HB2.out.2.2.1]; omega
      have q2 : (p : Int) + (rz : Int) = (posT L (j + 1) : Int) := by rw [HB2.out.2.1, HP.out.1, HB2.out.2.2.2]; omega
      have q0 : (j : Int) + 1 = ((j + 1 : Nat) : Int) := by omega
      rw [q0, q1, q2] at g7
      have hnew : LookI w w7 b6 b13 (j + 1) bn L oa n c f.bytes J :=
        ⟨g7, (ho.block b6 (Array.getElem?_eq_some_iff.1 H6.out.2.1).1 H4.out.2.2.2.2.2.2).trans H6.out.2.1, H6.out.2.2.1.kept (fun k hk => ho.block k (H6.out.2.2.1.lt k hk) (fun e => by subst e; exact H6.out.2.2.1.notB H6.out.1 (by decide) hk)),
          HT.out.kept _ _ _ H6.out.2.2.2 (ho.mono (fun k _ e => by subst e; exact ⟨H4.out.2.2.2.2.2.1, _, _, H6.out.1⟩))⟩
      have HNEW := Lib.hid hnew
      clear hnew g7 ho q0 q1 q2 hw7
      go_roundg (L.length + 1 - (j + 1))
      case measure => omega
      case rel => exact ⟨j + 1, by omega, rfl, HNEW⟩
    · obtain rfl : L.length = j := by omega
      obtain ⟨M, hM⟩ : ∃ M, M = L.length := ⟨_, rfl⟩
      have hbe := bats_end L tl
      rw [← hD, ← hp] at hbe
      have hlk : Calls Tryz.prog 152 #[.slice oa n c, .int .i64 (p : Int)] wr fun e w' => e = .returned (lookNo (whyT tl)) ∧ Below wr.heap.size wr w' := by
        rcases H.out.2.2.2.2.1.rest with h0 | h0
        · unfold whyT
          rw [if_pos h0]
          exact lookEnd_b H4.out.2.2.2.2.1.symm HI.out.row.read hpn (by omega) (by rw [hbe]; exact h0)
        · unfold whyT
          rw [if_neg h0.1]
          exact lookTorn_b H4.out.2.2.2.2.1.symm HI.out.row.read hpn (by omega) (by rw [hbe]; exact h0)
      obtain ⟨wy, hwy⟩ : ∃ y, y = whyT tl := ⟨_, rfl⟩
      have hy0 : (wy == 0) = false ∧ (wy != 0) = true := by
        rw [hwy]
        unfold whyT
        split <;> decide
      rw [← hwy] at hlk
      unfold lookNo at hlk
      have hy1 := hy0.1
      have hy2 := hy0.2
      have HLK := Lib.hid hlk
      have HWY := Lib.hid hwy
      clear hbe hlk hwy hy0 hp hE hD g13 hlt hj hg
      go_wp2_with fail
      refine HLK.out.mono ?_
      rintro e w5 ⟨rfl, hb5⟩
      have hi5 : J L.length w5 := HT.out.kept _ _ _ HI.out.j (Only.of_below hb5 (Nat.le_refl _) _)
      have g5 := (hb5.block b13 (Array.getElem?_eq_some_iff.1 HG.out).1).trans HG.out
      have g65 := (hb5.block b6 (Array.getElem?_eq_some_iff.1 HI.out.f6).1).trans HI.out.f6
      rw [← hM] at g5
      have k3 : w5.cell? ⟨b13, 3, none⟩ = some (.int .i64 0) := cell_of g5 rfl
      have z3 : w5.frozen? ⟨b13, 3, none⟩ = false := free_of g5 _
      have H5 := Lib.hid (And.intro g5 (And.intro g65 hi5))
      clear hb5 hi5 g5 g65 c0 c1 c2 HLK
      go_upto_region 15 with fail
      obtain ⟨w6, hw6⟩ : ∃ W : World, W = w5.setCell ⟨b13, 3, none⟩ (.int .i64 wy) := ⟨_, rfl⟩
      rw [← hw6]
      have g6' : w6.heap[b13]? = some (.cells #[.int .i64 (M : Int), .int .i64 E, .int .i64 (p : Int), .int .i64 wy] 48 (0, 0)) := by rw [hw6]; exact heap_setCell_here _ H5.out.1
      have ho : Only (fun k => k = b13) w5 w6 := by rw [hw6]; exact only_setCell (fun k => k = b13) _ b13 3 _ rfl
      have g66 := (ho.block b6 (Array.getElem?_eq_some_iff.1 H5.out.2.1).1 H4.out.2.2.2.2.2.2).trans H5.out.2.1
      have hj6 : J L.length w6 := HT.out.kept _ _ _ H5.out.2.2 (ho.mono (fun k _ e => by subst e; exact ⟨H4.out.2.2.2.2.2.1, _, _, H5.out.1⟩))
      have l0 : w6.cell? ⟨b13, 0, none⟩ = some (.int .i64 (M : Int)) := cell_of g6' rfl
      have l1 : w6.cell? ⟨b13, 1, none⟩ = some (.int .i64 E) := cell_of g6' rfl
      have l2 : w6.cell? ⟨b13, 2, none⟩ = some (.int .i64 (p : Int)) := cell_of g6' rfl
      have l3 : w6.cell? ⟨b13, 3, none⟩ = some (.int .i64 wy) := cell_of g6' rfl
      have y0 : w6.cell? ⟨b6, 0, none⟩ = some (.int .i64 0) := cell_of g66 rfl
      have y1 : w6.cell? ⟨b6, 1, none⟩ = some (.int .i64 0) := cell_of g66 rfl
      have y2 : w6.cell? ⟨b6, 2, none⟩ = some (.int .i64 0) := cell_of g66 rfl
      have y3 : w6.cell? ⟨b6, 3, none⟩ = some (.int .i64 0) := cell_of g66 rfl
      have v0 : w6.frozen? ⟨b6, 0, none⟩ = false := free_of g66 _
      have v1 : w6.frozen? ⟨b6, 1, none⟩ = false := free_of g66 _
      have v2 : w6.frozen? ⟨b6, 2, none⟩ = false := free_of g66 _
      have v3 : w6.frozen? ⟨b6, 3, none⟩ = false := free_of g66 _
      have H6 := Lib.hid (And.intro g66 hj6)
      clear hw6 g6' ho g66 hj6 k3 z3
      go_wp2_with fail
      obtain ⟨w7, hw7⟩ : ∃ W : World, W = (((w6.setCell ⟨b6, 0, none⟩ (.int .i64 (L.length : Int))).setCell ⟨b6, 1, none⟩ (.int .i64 E)).setCell ⟨b6, 2, none⟩ (.int .i64 (p : Int))).setCell ⟨b6, 3, none⟩ (.int .i64 wy) := ⟨_, rfl⟩
      rw [← hw7]
      have g7 : w7.heap[b6]? = some (.cells #[.int .i64 (L.length : Int), .int .i64 E, .int .i64 (p : Int), .int .i64 wy] 48 (0, 0)) := by
        rw [hw7]
        exact heap_setCell_here _ (heap_setCell_here _ (heap_setCell_here _ (heap_setCell_here _ H6.out.1)))
      have ho7 : Only (fun k => k = b6) w6 w7 := by
        rw [hw7]
        exact (((only_setCell (fun k => k = b6) _ b6 0 _ rfl).trans (only_setCell (fun k => k = b6) _ b6 1 _ rfl) (fun _ _ e => e)).trans (only_setCell (fun k => k = b6) _ b6 2 _ rfl) (fun _ _ e => e)).trans (only_setCell (fun k => k = b6) _ b6 3 _ rfl) (fun _ _ e => e)
      have r0 := cell_of (i := 0) g7 rfl
      have r1 := cell_of (i := 1) g7 rfl
      have r2 := cell_of (i := 2) g7 rfl
      have r3 := cell_of (i := 3) g7 rfl
      refine bodyPost_ret (v := .tuple #[.agg #[.int .i64 (L.length : Int), .int .i64 E, .int .i64 (p : Int), .int .i64 wy], .int .i64 0]) (by simp [results, Tryz.results80, go_sem, r0, r1, r2, r3]) rfl ⟨?_, ?_⟩
      · unfold foundV
        rw [HP.out.2, HP.out.1, HWY.out, List.take_length, posT_all]
      · exact HT.out.kept _ _ _ H6.out.2 (ho7.mono (fun k _ e => by subst e; exact ⟨by have := H1.out.2.2; omega, _, _, H6.out.1⟩))
set_option maxRecDepth 100000 in
set_option maxHeartbeats 400000 in
theorem tellN_b {w : World} {a b : Int} : Calls Tryz.prog 81 #[.int .i64 a, .int .i64 b] w fun e w' => (∃ v, e = .returned v) ∧ w' = w := by
  go_enter Tryz.func81, Tryz.ntmps81
  go_wp2_with fail
  go_end0
  exact ⟨⟨_, rfl⟩, rfl⟩
set_option maxRecDepth 100000 in
set_option maxHeartbeats 2000000 in
theorem lookS_b {w : World} {S : Nat → Prop} {q bn : Nat} {d : Dk} {nm : ByteArray} {f : F0} {L : List Bat} {tl : List UInt8} (h : DiskAt w S q d) (hnm : nm.size ≤ 32) (hok : okName nm.data.toList = true) (hbn : hnum (digs nm.data.toList) = bn) (hf : d.find nm.data.toList = some f) (hfb : f.bytes = batsT L ++ tl) (hgo : BatsOk L tl) (hch : Chain bn L) (hbl : bn ≤ 9007199254740992) :
    Calls Tryz.prog 20 #[.pointer (some ⟨q, 0, none⟩), .string nm] w fun e w' => e = .returned (.tuple #[foundV L.length (bn + cntT L) (batsT L).length (whyT tl), .int .i64 0]) ∧ Below w.heap.size w w' := by
  obtain ⟨w1, hw1⟩ : ∃ W : World, W = w.alloc (.cells #[.int .i64 0, .int .i64 0, .int .i64 0, .int .i64 0] 48) := ⟨_, rfl⟩
  obtain ⟨b4, hb4⟩ : ∃ b, b = w.heap.size := ⟨_, rfl⟩
  have g4 : w1.heap[b4]? = some (.cells #[.int .i64 0, .int .i64 0, .int .i64 0, .int .i64 0] 48 (0, 0)) := by rw [hw1, hb4]; exact alloc_cells _ _ _
  have hb1 : Below w.heap.size w w1 := by rw [hw1]; exact (Below.refl _ _).alloc (Nat.le_refl _) _
  have hT : TellIs w1 L 81 #[] (fun _ W => Below w1.heap.size w1 W) :=
    ⟨fun W hW => hW, fun j A B hA ho => hA.trans (ho.below (fun i hi e => by have := e.1; omega) hA.size), fun j W hj hJ => tellN_b.mono (fun e W' hq => by
      obtain ⟨he, rfl⟩ := hq
      exact ⟨he, hJ, Nat.le_refl _, fun _ _ _ _ => rfl, fun _ _ _ _ => rfl⟩)⟩
  have hl := lookN_b (h.belowS hb1) hnm hok hbn hf hfb hgo hch hbl hT
  unfold foundV at hl ⊢
  obtain ⟨x0, hx0⟩ : ∃ x : Int, x = (L.length : Int) := ⟨_, rfl⟩
  obtain ⟨x1, hx1⟩ : ∃ x : Int, x = ((bn + cntT L : Nat) : Int) := ⟨_, rfl⟩
  obtain ⟨x2, hx2⟩ : ∃ x : Int, x = ((batsT L).length : Int) := ⟨_, rfl⟩
  obtain ⟨x3, hx3⟩ : ∃ x : Int, x = whyT tl := ⟨_, rfl⟩
  rw [← hx0, ← hx1, ← hx2, ← hx3] at hl ⊢
  have HL := Lib.hid hl
  have H1 := Lib.hid (And.intro g4 (And.intro hb1 hb4))
  clear h hnm hok hbn hf hfb hgo hch hbl hT hl g4 hb1 hx0 hx1 hx2 hx3
  go_enter Tryz.func20, Tryz.ntmps20
  go_upto_region 1 with fail
  rw [← hw1, ← hb4]
  clear hw1 hb4
  go_wp2_with fail
  refine HL.out.mono ?_
  rintro e w2 ⟨rfl, hb2⟩
  have g2 := (hb2.block b4 (Array.getElem?_eq_some_iff.1 H1.out.1).1).trans H1.out.1
  have y0 : w2.cell? ⟨b4, 0, none⟩ = some (.int .i64 0) := cell_of g2 rfl
  have y1 : w2.cell? ⟨b4, 1, none⟩ = some (.int .i64 0) := cell_of g2 rfl
  have y2 : w2.cell? ⟨b4, 2, none⟩ = some (.int .i64 0) := cell_of g2 rfl
  have y3 : w2.cell? ⟨b4, 3, none⟩ = some (.int .i64 0) := cell_of g2 rfl
  have v0 : w2.frozen? ⟨b4, 0, none⟩ = false := free_of g2 _
  have v1 : w2.frozen? ⟨b4, 1, none⟩ = false := free_of g2 _
  have v2 : w2.frozen? ⟨b4, 2, none⟩ = false := free_of g2 _
  have v3 : w2.frozen? ⟨b4, 3, none⟩ = false := free_of g2 _
  have H2 := Lib.hid (And.intro g2 hb2)
  clear g2 hb2 HL
  go_wp2_with fail
  obtain ⟨w7, hw7⟩ : ∃ W : World, W = (((w2.setCell ⟨b4, 0, none⟩ (.int .i64 x0)).setCell ⟨b4, 1, none⟩ (.int .i64 x1)).setCell ⟨b4, 2, none⟩ (.int .i64 x2)).setCell ⟨b4, 3, none⟩ (.int .i64 x3) := ⟨_, rfl⟩
  rw [← hw7]
  have g7 : w7.heap[b4]? = some (.cells #[.int .i64 x0, .int .i64 x1, .int .i64 x2, .int .i64 x3] 48 (0, 0)) := by
    rw [hw7]
    exact heap_setCell_here _ (heap_setCell_here _ (heap_setCell_here _ (heap_setCell_here _ H2.out.1)))
  have ho7 : Only (fun k => k = b4) w2 w7 := by
    rw [hw7]
    exact (((only_setCell (fun k => k = b4) _ b4 0 _ rfl).trans (only_setCell (fun k => k = b4) _ b4 1 _ rfl) (fun _ _ e => e)).trans (only_setCell (fun k => k = b4) _ b4 2 _ rfl) (fun _ _ e => e)).trans (only_setCell (fun k => k = b4) _ b4 3 _ rfl) (fun _ _ e => e)
  have r0 := cell_of (i := 0) g7 rfl
  have r1 := cell_of (i := 1) g7 rfl
  have r2 := cell_of (i := 2) g7 rfl
  have r3 := cell_of (i := 3) g7 rfl
  refine bodyPost_ret (v := .tuple #[.agg #[.int .i64 x0, .int .i64 x1, .int .i64 x2, .int .i64 x3], .int .i64 0]) (by simp [results, Tryz.results20, go_sem, r0, r1, r2, r3]) rfl ⟨rfl, ?_⟩
  have hb02 := H1.out.2.1.trans (H2.out.2.mono H1.out.2.1.size)
  exact hb02.trans (ho7.below (fun i hi e => by have := H1.out.2.2; omega) hb02.size)
section
variable {w : World} {S : Nat → Prop} {s x q : Nat} {nm : ByteArray} {bn step : Nat} {sv : Value} {sp : List Sp} {bs : List Bat} {d : Dk}
end
end Go.Proofs.YtlgcoaeddeiegaaGreat
