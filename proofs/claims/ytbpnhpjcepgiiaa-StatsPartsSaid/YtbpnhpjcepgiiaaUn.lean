/- Stats: one call of the law: what is asked. -/
import Derived.Test.YtbpnhpjcepgiiaaUm
namespace Go.Proofs.Ytbpnhpjcepgiiaa
open Go.RowKit Fl

/-- all but two blocks stay -/
structure Kept (w w' : World) (q s : Nat) : Prop where
  os : w'.os = w.os
  tape : w'.tape = w.tape
  output : w'.output = w.output
  size : w.heap.size ≤ w'.heap.size
  block : ∀ k, k < w.heap.size → k ≠ q → k ≠ s → w'.heap[k]? = w.heap[k]?
theorem Kept.ofBelow {w w' : World} {q s : Nat} (h : Below w.heap.size w w') : Kept w w' q s := ⟨h.os, h.tape, h.output, h.size, fun k hk _ _ => h.block k hk⟩
theorem Kept.ofQ {w w' : World} {q s : Nat} (h : w.grownBy w' (some q)) : Kept w w' q s := ⟨h.os, h.tape, h.output, h.size, fun k hk h1 _ => h.block k hk (by simp; exact h1)⟩
theorem Kept.ofS {w w' : World} {q s : Nat} (h : w.grownBy w' (some s)) : Kept w w' q s := ⟨h.os, h.tape, h.output, h.size, fun k hk _ h1 => h.block k hk (by simp; exact h1)⟩
theorem Kept.ofNew {w0 w w' : World} {q s p : Nat} (h : Kept w0 w q s) (g : w.grownBy w' (some p)) (hp : w0.heap.size ≤ p) : Kept w0 w' q s :=
  ⟨g.os.trans h.os, g.tape.trans h.tape, g.output.trans h.output, Nat.le_trans h.size g.size, fun k hk h1 h2 => (g.block k (Nat.lt_of_lt_of_le hk h.size) (by simp; omega)).trans (h.block k hk h1 h2)⟩
theorem Kept.trans {w w1 w2 : World} {q s : Nat} (h : Kept w w1 q s) (g : Kept w1 w2 q s) : Kept w w2 q s :=
  ⟨g.os.trans h.os, g.tape.trans h.tape, g.output.trans h.output, Nat.le_trans h.size g.size, fun k hk h1 h2 => (g.block k (Nat.lt_of_lt_of_le hk h.size) h1 h2).trans (h.block k hk h1 h2)⟩
theorem FloatsAt.kept {w w' : World} {q s : Nat} {oa : Option Addr} {n : Nat} {f : Nat → Nat} (h : FloatsAt w oa n f) (k : Kept w w' q s) (hne : 0 < n → ∀ ad, oa = some ad → ad.block ≠ q ∧ ad.block ≠ s) : FloatsAt w' oa n f := fun i hi => by
  obtain ⟨ad, h1, h2, h3, h4⟩ := h i hi
  have hb : (ad.add i).block = ad.block := by unfold Addr.add; split <;> rfl
  refine ⟨ad, h1, ?_, Nat.lt_of_lt_of_le h3 k.size, h4⟩
  rw [World.cell?_of_block (w := w) (by rw [hb]; exact k.block _ h3 (hne (by omega) ad h1).1 (hne (by omega) ad h1).2)]
  exact h2
theorem Ta_ne_Tb {w : World} {q s : Nat} {a b : Ta} (h : TaAt w q a) (h2 : TbAt w s b) : q ≠ s := fun e => by
  have h1 := h.at_
  rw [e, h2.at_] at h1
  simp only [Option.some.injEq, Obj.cells.injEq] at h1
  exact absurd h1.2.1 (by decide)

/-- what stands ahead of a call -/
structure AskH (w : World) (q s : Nat) (oa : Option Addr) (n : Nat) (f : Nat → Nat) (a b : Ta) (M : Int) : Prop where
  pair : Pair a b
  ta : TaAt w q a
  tb : TbAt w s b
  fl : FloatsAt w oa n f
  ne : 0 < n → ∀ ad, oa = some ad → ad.block ≠ q ∧ ad.block ≠ s
  n200 : n ≤ 200
  m : a.n + 200 ≤ M
  m2 : M ≤ 107374182400
def AskPost (w : World) (q s : Nat) (M : Int) (e : Ending) (w' : World) : Prop :=
  e = .returned (.bool true) ∧ ∃ a' b', Pair a' b' ∧ TaAt w' q a' ∧ TbAt w' s b' ∧ Kept w w' q s ∧ a'.n + 200 ≤ 2 * M
theorem AskH.fl64 {w : World} {q s : Nat} {oa : Option Addr} {n : Nat} {f : Nat → Nat} {a b : Ta} {M : Int} (A : AskH w q s oa n f a b M) : ∀ i, i < n → f i < 18446744073709551616 := fun i hi => by
  obtain ⟨_, _, _, _, h⟩ := A.fl i hi; exact h
section
variable {w : World} {q s : Nat} {oa : Option Addr} {n c : Nat} {f : Nat → Nat} {a b : Ta} {M : Int}
theorem boxX {w w1 : World} {k : Int} {v : Value} (hb : Below (w.alloc (.cells #[.int .i64 k, v] 88)).heap.size (w.alloc (.cells #[.int .i64 k, v] 88)) w1) :
    w1.cell? ⟨w.heap.size, 0, none⟩ = some (.int .i64 k) ∧ w1.cell? ⟨w.heap.size, 1, none⟩ = some v := by
  have h := heap_alloc_new w (.cells #[.int .i64 k, v] 88)
  have h2 : w1.heap[w.heap.size]? = _ := (hb.block w.heap.size (by simp)).trans h
  constructor <;> simp [World.cell?, h2]
set_option maxRecDepth 100000 in
set_option maxHeartbeats 4000000 in
theorem ask_other (k : Int) (hk : k < 0 ∨ 4 < k) (A : Hid (AskH w q s oa n f a b M)) :
    Calls Try.prog 38 #[.pointer (some ⟨q, 0, none⟩), .pointer (some ⟨s, 0, none⟩), .agg #[.int .i64 k, .slice oa n c]] w (AskPost w q s M) := by
  have e0 : (k == 0) = false := by simp; omega
  have e1 : (k == 1) = false := by simp; omega
  have e2 : (k == 2) = false := by simp; omega
  have e3 : (k == 3) = false := by simp; omega
  have e4 : (k == 4) = false := by simp; omega
  clear hk
  go_enter Try.func38, Try.ntmps38
  go_wp2_with fail
  refine (lent_b oa n c f _ (A.out.fl.below ((Below.refl _ _).alloc (Nat.le_refl _) _)) A.out.n200).mono ?_
  rintro e w1 ⟨g, cap, rfl, hm, hg, hcap, hcap2, hb⟩
  have HM := Lib.hid hm
  have hg1 : w.heap.size + 1 ≤ g := by simpa using hg
  have HG := Lib.hid hg1
  have hcX := boxX hb
  obtain ⟨c0, c1⟩ := hcX
  have HB1 : Hid (Below w.heap.size w w1) := Lib.hid (((Below.refl w.heap.size w).alloc (Nat.le_refl _) _).trans (hb.mono (by simp)))
  have HX : Hid (w.heap.size < w1.heap.size) := Lib.hid (by have := hb.size; simp at this; omega)
  clear hm hg hg1 hb
  go_wp2_with fail
  refine (kept_b g cap oa n c f _ HM.out (A.out.fl.below HB1.out) A.out.n200 hcap).mono ?_
  rintro e w9 ⟨rfl, hb9⟩
  have HB9 := Lib.hid hb9
  clear hb9
  go_wp2_with fail
  go_ret
  have hb := HB1.out.trans (HB9.out.mono HB1.out.size)
  exact ⟨rfl, a, b, A.out.pair, A.out.ta.of (hb.block q A.out.ta.lt), A.out.tb.of (hb.block s A.out.tb.lt), Kept.ofBelow hb, by have := A.out.m; have := A.out.pair.n0; omega⟩
set_option maxRecDepth 100000 in
set_option maxHeartbeats 4000000 in
theorem ask_add0 (A : Hid (AskH w q s oa n f a b M)) :
    Calls Try.prog 38 #[.pointer (some ⟨q, 0, none⟩), .pointer (some ⟨s, 0, none⟩), .agg #[.int .i64 0, .slice oa n c]] w (AskPost w q s M) := by
  have hn200 := A.out.n200
  go_enter Try.func38, Try.ntmps38
  go_wp2_with fail
  refine (lent_b oa n c f _ (A.out.fl.below ((Below.refl _ _).alloc (Nat.le_refl _) _)) A.out.n200).mono ?_
  rintro e w1 ⟨g, cap, rfl, hm, hg, hcap, hcap2, hb⟩
  have HM := Lib.hid hm
  have hg1 : w.heap.size + 1 ≤ g := by simpa using hg
  have HG := Lib.hid hg1
  have hcX := boxX hb
  obtain ⟨c0, c1⟩ := hcX
  have HB1 : Hid (Below w.heap.size w w1) := Lib.hid (((Below.refl w.heap.size w).alloc (Nat.le_refl _) _).trans (hb.mono (by simp)))
  have HX : Hid (w.heap.size < w1.heap.size) := Lib.hid (by have := hb.size; simp at this; omega)
  clear hm hg hg1 hb
  go_wp2_with fail
  refine (add_any q (some ⟨g, 0, none⟩) n cap f a _ (A.out.ta.of (HB1.out.block q A.out.ta.lt)) A.out.pair.ok HM.out.fl (fun _ ad h => by obtain rfl := Option.some.inj h; have := HG.out; have := A.out.ta.lt; show g ≠ q; omega) (by have := A.out.n200; omega) (by have := A.out.m; have := A.out.m2; have := A.out.n200; omega)).mono ?_
  rintro e w2 ⟨rfl, a', hia, hta, hg2⟩
  have HIA := Lib.hid hia
  have HTA := Lib.hid hta
  have HG2 := Lib.hid hg2
  have nX : w.heap.size ≠ q := by have := A.out.ta.lt; omega
  have nXs : w.heap.size ≠ s := by have := A.out.tb.lt; omega
  have NX := Lib.hid (And.intro nX nXs)
  have QS := Lib.hid (Ta_ne_Tb A.out.ta A.out.tb)
  clear nX nXs hia hta hg2 c0
  go_wp2_with fail
  refine (lnum_any 0 _).mono ?_
  rintro e w' ⟨rfl, rfl⟩
  have c2 : w2.cell? ⟨w.heap.size, 1, none⟩ = some (.slice oa n c) := by
    rw [World.cell?_of_block (w := w1) (HG2.out.block w.heap.size HX.out (by simp; exact NX.out.1))]
    exact c1
  have C2 := Lib.hid c2
  clear c1 c2
  have K2 : Hid (Kept w w2 q s) := Lib.hid ((Kept.ofBelow HB1.out).trans (Kept.ofQ HG2.out))
  go_wp2_with fail
  go_loopg [8] n (fun k0 s8 wr => ∃ k : Nat, s8 = .int .i64 k ∧ k0 = n - k ∧ k ≤ n ∧ ∃ b', Hid (RIns f b k b' ∧ TbAt wr s b' ∧ w2.grownBy wr (some s)))
  case atStart => exact ⟨0, rfl, rfl, Nat.zero_le _, b, Lib.hid ⟨.zero, A.out.tb.of ((HG2.out.block s (Nat.lt_of_lt_of_le A.out.tb.lt HB1.out.size) (by simp; exact fun e => QS.out (by first | exact e | exact e.symm))).trans (HB1.out.block s A.out.tb.lt)), World.grownBy.refl _ _⟩⟩
  case round =>
    obtain ⟨k, rfl, hgk, hk, b', HI⟩ := hrel
    have cx : wr.cell? ⟨w.heap.size, 1, none⟩ = some (.slice oa n c) := by
      rw [World.cell?_of_block (w := w2) (HI.out.2.2.block w.heap.size (Nat.lt_of_lt_of_le HX.out HG2.out.size) (by simp; exact NX.out.2))]
      exact C2.out
    have K3 : Hid (Kept w wr q s) := Lib.hid (K2.out.trans (Kept.ofS HI.out.2.2))
    by_cases hlt : k < n
    · have hdk : decide ((k : Int) < (n : Int)) = true := by simp; omega
      obtain ⟨ad, ha, cl, -, hfl⟩ := (A.out.fl.kept K3.out A.out.ne) k hlt
      subst ha
      have hb64 := HI.out.1.lt A.out.pair.least.b2 A.out.pair.greatest.b2 (fun i hi => A.out.fl64 i (by omega))
      have hbn := HI.out.1.n
      have HO := Lib.hid (And.intro hb64 (And.intro hbn hfl))
      clear hfl hb64 hbn
      go_wp2_with fail
      refine (refadd_any s (f k) b' _ HI.out.2.1 (by rw [HO.out.2.1, ← A.out.pair.n]; have := A.out.pair.n0; omega) (by rw [HO.out.2.1, ← A.out.pair.n]; have := A.out.m; have := A.out.m2; have := A.out.n200; omega) HO.out.1.1 HO.out.1.2 HO.out.2.2).mono ?_
      rintro e w3 ⟨rfl, b2, hi2, htb2, hg3⟩
      have HI2 : Hid (RIns f b (k + 1) b2 ∧ TbAt w3 s b2 ∧ w2.grownBy w3 (some s)) := Lib.hid ⟨.succ HI.out.1 hi2, htb2, grown_trans HI.out.2.2 hg3⟩
      clear hi2 htb2 hg3
      go_wp2_with fail
      go_roundg (n - (k + 1))
      case measure => omega
      case rel => exact ⟨k + 1, by go_num, rfl, by omega, b2, HI2⟩
    · obtain rfl : k = n := by omega
      have hdk : decide ((k : Int) < (k : Int)) = false := by simp
      have hm3 : Hid (LentAt wr g k f) := Lib.hid (HM.out.of ((HI.out.2.2.block g (Nat.lt_of_lt_of_le (World.block_lt_of_cell? w1 _ HM.out.mark) HG2.out.size) (by simp; have := HG.out; have := A.out.tb.lt; omega)).trans (HG2.out.block g (World.block_lt_of_cell? w1 _ HM.out.mark) (by simp; have := HG.out; have := A.out.ta.lt; omega))) (Nat.le_trans HG2.out.size HI.out.2.2.size))
      go_wp2_with fail
      refine (kept_b g cap oa k c f _ hm3.out (A.out.fl.kept K3.out A.out.ne) A.out.n200 hcap).mono ?_
      rintro e w9 ⟨rfl, hb9⟩
      have HB9 := Lib.hid hb9
      clear hb9
      go_wp2_with fail
      go_ret
      have hq3 : wr.heap[q]? = w2.heap[q]? := HI.out.2.2.block q HTA.out.lt (by simp; exact QS.out)
      have hp := A.out.pair.ins k a' b' A.out.fl64 HIA.out HI.out.1
      have hn := (HIA.out.ok A.out.pair.ok A.out.fl64).2
      exact ⟨rfl, a', b', hp, (HTA.out.of hq3).of (HB9.out.block q (Nat.lt_of_lt_of_le HTA.out.lt HI.out.2.2.size)), HI.out.2.1.of (HB9.out.block s HI.out.2.1.lt), K3.out.trans (Kept.ofBelow HB9.out), by have := A.out.m; have := A.out.n200; have := A.out.pair.n0; omega⟩
set_option maxRecDepth 100000 in
set_option maxHeartbeats 4000000 in
theorem ask_add1 (A : Hid (AskH w q s oa n f a b M)) :
    Calls Try.prog 38 #[.pointer (some ⟨q, 0, none⟩), .pointer (some ⟨s, 0, none⟩), .agg #[.int .i64 1, .slice oa n c]] w (AskPost w q s M) := by
  have hn200 := A.out.n200
  go_enter Try.func38, Try.ntmps38
  go_wp2_with fail
  refine (lent_b oa n c f _ (A.out.fl.below ((Below.refl _ _).alloc (Nat.le_refl _) _)) A.out.n200).mono ?_
  rintro e w1 ⟨g, cap, rfl, hm, hg, hcap, hcap2, hb⟩
  have HM := Lib.hid hm
  have hg1 : w.heap.size + 1 ≤ g := by simpa using hg
  have HG := Lib.hid hg1
  have hcX := boxX hb
  obtain ⟨c0, c1⟩ := hcX
  have HB1 : Hid (Below w.heap.size w w1) := Lib.hid (((Below.refl w.heap.size w).alloc (Nat.le_refl _) _).trans (hb.mono (by simp)))
  have HX : Hid (w.heap.size < w1.heap.size) := Lib.hid (by have := hb.size; simp at this; omega)
  clear hm hg hg1 hb
  go_wp2_with fail
  refine (add_any q (some ⟨g, 0, none⟩) n cap f a _ (A.out.ta.of (HB1.out.block q A.out.ta.lt)) A.out.pair.ok HM.out.fl (fun _ ad h => by obtain rfl := Option.some.inj h; have := HG.out; have := A.out.ta.lt; show g ≠ q; omega) (by have := A.out.n200; omega) (by have := A.out.m; have := A.out.m2; have := A.out.n200; omega)).mono ?_
  rintro e w2 ⟨rfl, a', hia, hta, hg2⟩
  have HIA := Lib.hid hia
  have HTA := Lib.hid hta
  have HG2 := Lib.hid hg2
  have nX : w.heap.size ≠ q := by have := A.out.ta.lt; omega
  have nXs : w.heap.size ≠ s := by have := A.out.tb.lt; omega
  have NX := Lib.hid (And.intro nX nXs)
  have QS := Lib.hid (Ta_ne_Tb A.out.ta A.out.tb)
  clear nX nXs hia hta hg2 c0
  go_wp2_with fail
  refine (lnum_any 0 _).mono ?_
  rintro e w' ⟨rfl, rfl⟩
  have c2 : w2.cell? ⟨w.heap.size, 1, none⟩ = some (.slice oa n c) := by
    rw [World.cell?_of_block (w := w1) (HG2.out.block w.heap.size HX.out (by simp; exact NX.out.1))]
    exact c1
  have C2 := Lib.hid c2
  clear c1 c2
  have K2 : Hid (Kept w w2 q s) := Lib.hid ((Kept.ofBelow HB1.out).trans (Kept.ofQ HG2.out))
  go_wp2_with fail
  go_loopg [8] n (fun k0 s8 wr => ∃ k : Nat, s8 = .int .i64 k ∧ k0 = n - k ∧ k ≤ n ∧ ∃ b', Hid (RIns f b k b' ∧ TbAt wr s b' ∧ w2.grownBy wr (some s)))
  case atStart => exact ⟨0, rfl, rfl, Nat.zero_le _, b, Lib.hid ⟨.zero, A.out.tb.of ((HG2.out.block s (Nat.lt_of_lt_of_le A.out.tb.lt HB1.out.size) (by simp; exact fun e => QS.out (by first | exact e | exact e.symm))).trans (HB1.out.block s A.out.tb.lt)), World.grownBy.refl _ _⟩⟩
  case round =>
    obtain ⟨k, rfl, hgk, hk, b', HI⟩ := hrel
    have cx : wr.cell? ⟨w.heap.size, 1, none⟩ = some (.slice oa n c) := by
      rw [World.cell?_of_block (w := w2) (HI.out.2.2.block w.heap.size (Nat.lt_of_lt_of_le HX.out HG2.out.size) (by simp; exact NX.out.2))]
      exact C2.out
    have K3 : Hid (Kept w wr q s) := Lib.hid (K2.out.trans (Kept.ofS HI.out.2.2))
    by_cases hlt : k < n
    · have hdk : decide ((k : Int) < (n : Int)) = true := by simp; omega
      obtain ⟨ad, ha, cl, -, hfl⟩ := (A.out.fl.kept K3.out A.out.ne) k hlt
      subst ha
      have hb64 := HI.out.1.lt A.out.pair.least.b2 A.out.pair.greatest.b2 (fun i hi => A.out.fl64 i (by omega))
      have hbn := HI.out.1.n
      have HO := Lib.hid (And.intro hb64 (And.intro hbn hfl))
      clear hfl hb64 hbn
      go_wp2_with fail
      refine (refadd_any s (f k) b' _ HI.out.2.1 (by rw [HO.out.2.1, ← A.out.pair.n]; have := A.out.pair.n0; omega) (by rw [HO.out.2.1, ← A.out.pair.n]; have := A.out.m; have := A.out.m2; have := A.out.n200; omega) HO.out.1.1 HO.out.1.2 HO.out.2.2).mono ?_
      rintro e w3 ⟨rfl, b2, hi2, htb2, hg3⟩
      have HI2 : Hid (RIns f b (k + 1) b2 ∧ TbAt w3 s b2 ∧ w2.grownBy w3 (some s)) := Lib.hid ⟨.succ HI.out.1 hi2, htb2, grown_trans HI.out.2.2 hg3⟩
      clear hi2 htb2 hg3
      go_wp2_with fail
      go_roundg (n - (k + 1))
      case measure => omega
      case rel => exact ⟨k + 1, by go_num, rfl, by omega, b2, HI2⟩
    · obtain rfl : k = n := by omega
      have hdk : decide ((k : Int) < (k : Int)) = false := by simp
      have hm3 : Hid (LentAt wr g k f) := Lib.hid (HM.out.of ((HI.out.2.2.block g (Nat.lt_of_lt_of_le (World.block_lt_of_cell? w1 _ HM.out.mark) HG2.out.size) (by simp; have := HG.out; have := A.out.tb.lt; omega)).trans (HG2.out.block g (World.block_lt_of_cell? w1 _ HM.out.mark) (by simp; have := HG.out; have := A.out.ta.lt; omega))) (Nat.le_trans HG2.out.size HI.out.2.2.size))
      go_wp2_with fail
      refine (kept_b g cap oa k c f _ hm3.out (A.out.fl.kept K3.out A.out.ne) A.out.n200 hcap).mono ?_
      rintro e w9 ⟨rfl, hb9⟩
      have HB9 := Lib.hid hb9
      clear hb9
      go_wp2_with fail
      go_ret
      have hq3 : wr.heap[q]? = w2.heap[q]? := HI.out.2.2.block q HTA.out.lt (by simp; exact QS.out)
      have hp := A.out.pair.ins k a' b' A.out.fl64 HIA.out HI.out.1
      have hn := (HIA.out.ok A.out.pair.ok A.out.fl64).2
      exact ⟨rfl, a', b', hp, (HTA.out.of hq3).of (HB9.out.block q (Nat.lt_of_lt_of_le HTA.out.lt HI.out.2.2.size)), HI.out.2.1.of (HB9.out.block s HI.out.2.1.lt), K3.out.trans (Kept.ofBelow HB9.out), by have := A.out.m; have := A.out.n200; have := A.out.pair.n0; omega⟩
end
end Go.Proofs.Ytbpnhpjcepgiiaa
