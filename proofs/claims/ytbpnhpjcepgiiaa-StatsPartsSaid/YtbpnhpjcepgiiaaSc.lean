/- Stats: a tally, a number that comes in, Add. -/
import Derived.Test.YtbpnhpjcepgiiaaSb
import Derived.Deep.RegionWith
import Derived.Deep.QuietTactic
import Derived.BigQuiet
import Derived.Deep.RegionLaw
namespace Go.Proofs.Ytbpnhpjcepgiiaa
open Go.RowKit Fl

/-- a tally's numbers -/
structure Ta where
  n : Int
  sum : Nat
  mean : Nat
  m : Nat
  least : Nat
  greatest : Nat
structure TaAt (w : World) (q : Nat) (t : Ta) : Prop where
  at_ : w.heap[q]? = some (.cells #[.int .i64 t.n, .float .f64 t.sum, .float .f64 t.mean, .float .f64 t.m, .float .f64 t.least, .float .f64 t.greatest] 84 (0, 0))
theorem TaAt.cells {w : World} {q : Nat} {t : Ta} (h : TaAt w q t) :
    w.cell? ⟨q, 0, none⟩ = some (.int .i64 t.n) ∧ w.cell? ⟨q, 1, none⟩ = some (.float .f64 t.sum) ∧ w.cell? ⟨q, 2, none⟩ = some (.float .f64 t.mean) ∧
    w.cell? ⟨q, 3, none⟩ = some (.float .f64 t.m) ∧ w.cell? ⟨q, 4, none⟩ = some (.float .f64 t.least) ∧ w.cell? ⟨q, 5, none⟩ = some (.float .f64 t.greatest) ∧ ∀ k, w.frozen? ⟨q, k, none⟩ = false := by
  have h1 := h.at_
  refine ⟨?_, ?_, ?_, ?_, ?_, ?_, fun k => ?_⟩ <;> simp [World.cell?, World.frozen?, h1]
theorem TaAt.of {w w' : World} {q : Nat} {t : Ta} (h : TaAt w q t) (e : w'.heap[q]? = w.heap[q]?) : TaAt w' q t := ⟨by rw [e]; exact h.at_⟩
theorem TaAt.lt {w : World} {q : Nat} {t : Ta} (h : TaAt w q t) : q < w.heap.size := (Array.getElem?_eq_some_iff.1 h.at_).1

theorem TaAt.set0 {w : World} {q : Nat} {t : Ta} (h : TaAt w q t) (x : Int) : TaAt (w.setCell ⟨q, 0, none⟩ (.int .i64 x)) q { t with n := x } := ⟨by
  show (w.heap.modify q _)[q]? = _
  rw [Array.getElem?_modify, if_pos rfl, h.at_]
  rfl⟩
theorem TaAt.set1 {w : World} {q : Nat} {t : Ta} (h : TaAt w q t) (x : Nat) : TaAt (w.setCell ⟨q, 1, none⟩ (.float .f64 x)) q { t with sum := x } := ⟨by
  show (w.heap.modify q _)[q]? = _
  rw [Array.getElem?_modify, if_pos rfl, h.at_]
  rfl⟩
theorem TaAt.set2 {w : World} {q : Nat} {t : Ta} (h : TaAt w q t) (x : Nat) : TaAt (w.setCell ⟨q, 2, none⟩ (.float .f64 x)) q { t with mean := x } := ⟨by
  show (w.heap.modify q _)[q]? = _
  rw [Array.getElem?_modify, if_pos rfl, h.at_]
  rfl⟩
theorem TaAt.set3 {w : World} {q : Nat} {t : Ta} (h : TaAt w q t) (x : Nat) : TaAt (w.setCell ⟨q, 3, none⟩ (.float .f64 x)) q { t with m := x } := ⟨by
  show (w.heap.modify q _)[q]? = _
  rw [Array.getElem?_modify, if_pos rfl, h.at_]
  rfl⟩
theorem TaAt.set4 {w : World} {q : Nat} {t : Ta} (h : TaAt w q t) (x : Nat) : TaAt (w.setCell ⟨q, 4, none⟩ (.float .f64 x)) q { t with least := x } := ⟨by
  show (w.heap.modify q _)[q]? = _
  rw [Array.getElem?_modify, if_pos rfl, h.at_]
  rfl⟩
theorem TaAt.set5 {w : World} {q : Nat} {t : Ta} (h : TaAt w q t) (x : Nat) : TaAt (w.setCell ⟨q, 5, none⟩ (.float .f64 x)) q { t with greatest := x } := ⟨by
  show (w.heap.modify q _)[q]? = _
  rw [Array.getElem?_modify, if_pos rfl, h.at_]
  rfl⟩

/-- three floats by their number -/
def f3 (a b c : Nat) : Nat → Nat := fun i => if i = 0 then a else if i = 1 then b else c
theorem floats3 {w : World} {g : Nat} {T : TypeId} {a b c : Nat} (h : w.heap[g]? = some (.cells #[.float .f64 a, .float .f64 b, .float .f64 c] T (0, 0))) (ha : a < 18446744073709551616) (hb : b < 18446744073709551616) (hc : c < 18446744073709551616) :
    FloatsAt w (some ⟨g, 0, none⟩) 3 (f3 a b c) := fun i hi => by
  have hg := (Array.getElem?_eq_some_iff.1 h).1
  have h3 : i = 0 ∨ i = 1 ∨ i = 2 := by omega
  rcases h3 with rfl | rfl | rfl
  · exact ⟨_, rfl, by simp [Addr.add, World.cell?, h, f3], hg, ha⟩
  · exact ⟨_, rfl, by simp [Addr.add, World.cell?, h, f3], hg, hb⟩
  · exact ⟨_, rfl, by simp [Addr.add, World.cell?, h, f3], hg, hc⟩
theorem free_drew {W : World} {q : Nat} (h : q < W.heap.size ∧ ∀ k, W.frozen? ⟨q, k, none⟩ = false) : q < W.drew.heap.size ∧ ∀ k, W.drew.frozen? ⟨q, k, none⟩ = false := h
theorem free_alloc {W : World} {q : Nat} (o : Obj) (h : q < W.heap.size ∧ ∀ k, W.frozen? ⟨q, k, none⟩ = false) : q < (W.alloc o).heap.size ∧ ∀ k, (W.alloc o).frozen? ⟨q, k, none⟩ = false :=
  ⟨by simp; omega, fun k => by rw [World.frozen?_of_block (Below.heap_alloc W o q h.1)]; exact h.2 k⟩
theorem free_set {W : World} {q : Nat} (a : Addr) (v : Value) (h : q < W.heap.size ∧ ∀ k, W.frozen? ⟨q, k, none⟩ = false) : q < (W.setCell a v).heap.size ∧ ∀ k, (W.setCell a v).frozen? ⟨q, k, none⟩ = false :=
  ⟨by simpa [World.setCell] using h.1, fun k => by simpa [go_sem] using h.2 k⟩
/-- how a number comes in: all sums and products have a value -/
structure InOk (t : Ta) (x : Nat) (t' : Ta) : Prop where
  n0 : 0 ≤ t.n
  n1 : t.n < 1000000
  n : t'.n = t.n + 1
  sum : Ieee.double.add t.sum x = some t'.sum
  d : ∃ d q d2 p, Ieee.double.sub x t.mean = some d ∧ Ieee.double.div d (i2r (t.n + 1).toNat) = some q ∧ Ieee.double.add t.mean q = some t'.mean ∧
    Ieee.double.sub x t'.mean = some d2 ∧ Ieee.double.mul d d2 = some p ∧ Ieee.double.add t.m p = some t'.m
  least : t'.least = minTo (f3 (if t.n = 0 then x else t.least) (if t.n = 0 then x else t.greatest) x) 2
  greatest : t'.greatest = maxTo (f3 (if t.n = 0 then x else t.least) (if t.n = 0 then x else t.greatest) x) 2
  b1 : t.least < 18446744073709551616
  b2 : t.greatest < 18446744073709551616
  b3 : x < 18446744073709551616

set_option maxRecDepth 100000 in
set_option maxHeartbeats 2000000 in
theorem in_b (q x : Nat) (t t' : Ta) (w : World) (h : TaAt w q t) (hi : InOk t x t') :
    Calls Try.prog 75 #[.pointer (some ⟨q, 0, none⟩), .float .f64 x] w fun e w' => e = .returned (.tuple #[]) ∧ TaAt w' q t' ∧ w.grownBy w' (some q) := by
  obtain ⟨d, qq, d2, p, o1, o2, o3, o4, o5, o6⟩ := hi.d
  obtain ⟨n, hn⟩ : ∃ n : Nat, t.n = (n : Int) := ⟨t.n.toNat, by have := hi.n0; omega⟩
  have hsum := fun (T : TypeId) (W : World) => run_float_arith (P := Try.prog) W .add T .f64 t.sum x t'.sum hi.sum
  have h1 := fun (T : TypeId) (W : World) => run_float_arith (P := Try.prog) W .sub T .f64 x t.mean d o1
  have h2 := fun (T : TypeId) (W : World) => run_float_arith (P := Try.prog) W .quo T .f64 d (i2r (t.n + 1).toNat) qq o2
  have h3 := fun (T : TypeId) (W : World) => run_float_arith (P := Try.prog) W .add T .f64 t.mean qq t'.mean o3
  have h4 := fun (T : TypeId) (W : World) => run_float_arith (P := Try.prog) W .sub T .f64 x t'.mean d2 o4
  have h5 := fun (T : TypeId) (W : World) => run_float_arith (P := Try.prog) W .mul T .f64 d d2 p o5
  have h6 := fun (T : TypeId) (W : World) => run_float_arith (P := Try.prog) W .add T .f64 t.m p t'.m o6
  have hcv : floatOfInt .f64 ((n : Int) + 1) = i2r (t.n + 1).toNat := by rw [hn]; exact floatOfInt_nat (n + 1)
  have hnn : (n : Int) < 1000000 := by have := hi.n1; omega
  have hsf := run_store_float
  have H := Lib.hid h
  have HI := Lib.hid hi
  have HN := Lib.hid hn
  obtain ⟨c0, c1, c2, c3, c4, c5, hfr⟩ := h.cells
  rw [hn] at c0
  obtain ⟨nf, hnf⟩ : ∃ nf, nf = i2r (t.n + 1).toNat := ⟨_, rfl⟩
  rw [← hnf] at h2 hcv
  have hn' := hn
  clear h hi hn o1 o2 o3 o4 o5 o6 hnf
  obtain ⟨l0, hl0⟩ : ∃ l0, l0 = (if t.n = 0 then x else t.least) := ⟨_, rfl⟩
  obtain ⟨g0, hg0⟩ : ∃ g0, g0 = (if t.n = 0 then x else t.greatest) := ⟨_, rfl⟩
  have HL := Lib.hid hl0
  have HG := Lib.hid hg0
  clear hl0 hg0
  have hD : ∃ z, ((n : Int) == 0) = z ∧ ((z = true ∧ t.n = 0) ∨ (z = false ∧ t.n ≠ 0)) := by
    refine ⟨_, rfl, ?_⟩
    rw [hn']
    by_cases h0 : n = 0
    · subst h0; exact .inl ⟨rfl, rfl⟩
    · exact .inr ⟨by simp; omega, by omega⟩
  obtain ⟨z, hz, hzz⟩ := hD
  have HZZ := Lib.hid hzz
  clear hzz hn'
  go_enter Try.func75, Try.ntmps75
  go_upto_if 9 with fail
  go_cut [4] from 5 to 17 (fun _ wx => Hid (TaAt wx q ⟨n, t.sum, t.mean, t.m, l0, g0⟩ ∧ w.grownBy wx (some q)))
  case first =>
    rcases HZZ.out with ⟨rfl, h0⟩ | ⟨rfl, h0⟩
    · have hlx : Hid (l0 = x ∧ g0 = x) := Lib.hid ⟨by rw [HL.out, if_pos h0], by rw [HG.out, if_pos h0]⟩
      clear h0
      go_wp2_with fail
      go_meet
      refine Lib.hid ⟨?_, grown_trans (grown_setCell _ _ _ _) (grown_setCell _ _ _ _)⟩
      rw [hlx.out.1, hlx.out.2]
      have := (H.out.set4 x).set5 x
      rw [HN.out] at this
      exact this
    · have hlx : Hid (l0 = t.least ∧ g0 = t.greatest) := Lib.hid ⟨by rw [HL.out, if_neg h0], by rw [HG.out, if_neg h0]⟩
      clear h0
      go_wp2_with fail
      go_meet
      refine Lib.hid ⟨?_, World.grownBy.refl _ _⟩
      rw [hlx.out.1, hlx.out.2]
      have := H.out.at_
      rw [HN.out] at this
      exact ⟨this⟩
  case rest =>
  have T1 := hcut
  clear c0 c1 c2 c3 c4 c5 hfr hcut
  obtain ⟨c0, c1, c2, c3, c4, c5, hfr⟩ := T1.out.1.cells
  go_upto_region 5 with fail
  go_cut [4] from 39 to 52 (fun s4 wx => s4 = .float .f64 d ∧ Hid (TaAt wx q ⟨(n : Int) + 1, t'.sum, t'.mean, t.m, l0, g0⟩ ∧ w.grownBy wx (some q)))
  case first =>
    go_region
    all_goals (go_wp2_with fail; go_meet)
    all_goals exact ⟨rfl, Lib.hid ⟨(((T1.out.1.set0 ((n : Int) + 1)).set1 t'.sum).set2 t'.mean).of (by rfl), grown_trans T1.out.2 (grown_trans (grown_setCell _ _ _ _) (grown_trans (grown_setCell _ _ _ _) (grown_trans (grown_setCell _ _ _ _) (grown_drewN _ 1 _))))⟩⟩
  case rest =>
  obtain ⟨rfl, T2⟩ := hcut
  clear c0 c1 c2 c3 c4 c5 hfr T1
  obtain ⟨c0, c1, c2, c3, c4, c5, hfr⟩ := T2.out.1.cells
  go_upto_region 6 with fail
  go_cut [4] from 53 to 67 (fun s4 wx => Hid (TaAt wx q ⟨(n : Int) + 1, t'.sum, t'.mean, t'.m, l0, g0⟩ ∧ w.grownBy wx (some q)))
  case first =>
    go_region
    all_goals (go_wp2_with fail; go_meet)
    all_goals exact Lib.hid ⟨(T2.out.1.set3 t'.m).of (by rfl), grown_trans T2.out.2 (grown_trans (grown_setCell _ _ _ _) (grown_drewN _ 1 _))⟩
  case rest =>
  have T3 := hcut
  clear c0 c1 c2 c3 c4 c5 hfr T2 hcut
  obtain ⟨c0, c1, c2, c3, c4, c5, hfr⟩ := T3.out.1.cells
  have hb3 : Hid (l0 < 18446744073709551616 ∧ g0 < 18446744073709551616) := Lib.hid ⟨by rw [HL.out]; have := HI.out.b1; have := HI.out.b3; split <;> assumption, by rw [HG.out]; have := HI.out.b2; have := HI.out.b3; split <;> assumption⟩
  have HLT : Hid (t'.least = minTo (f3 l0 g0 x) 2 ∧ t'.greatest = maxTo (f3 l0 g0 x) 2) := Lib.hid ⟨by rw [HI.out.least, HL.out, HG.out], by rw [HI.out.greatest, HL.out, HG.out]⟩
  have hX : ¬ wc.heap.size = q := fun e => Nat.lt_irrefl _ (e ▸ T3.out.1.lt)
  have hX2 : ¬ q = wc.heap.size := fun e => hX e.symm
  have hed : ∀ W : World, W.heap[wc.heap.size]? = some (.cells #[.float .f64 l0, .float .f64 g0, .float .f64 x] 22 (0, 0)) → Calls Try.prog 76 #[.slice (some ⟨wc.heap.size, 0, none⟩) 3 3] W fun e w' => e = .returned (.tuple #[.float .f64 t'.least, .float .f64 t'.greatest]) ∧ W = w' := fun W hW => by
    rw [HLT.out.1, HLT.out.2]
    exact edges_b ⟨wc.heap.size, 0, none⟩ 3 3 (f3 l0 g0 x) W (floats3 hW hb3.out.1 hb3.out.2 HI.out.b3) (by decide) (by decide)
  have HED := Lib.hid hed
  clear hed
  go_upto_region 7 with fail
  have ta := T3.out.1.of (Below.heap_alloc wc (.cells #[.float .f64 l0, .float .f64 g0, .float .f64 x] 22) q T3.out.1.lt)
  have fA4 : (wc.alloc (.cells #[.float .f64 l0, .float .f64 g0, .float .f64 x] 22)).drew.cell? ⟨q, 4, none⟩ = some (.float .f64 l0) := ta.cells.2.2.2.2.1
  have fA5 : (wc.alloc (.cells #[.float .f64 l0, .float .f64 g0, .float .f64 x] 22)).drew.cell? ⟨q, 5, none⟩ = some (.float .f64 g0) := ta.cells.2.2.2.2.2.1
  have zA : ∀ k, (wc.alloc (.cells #[.float .f64 l0, .float .f64 g0, .float .f64 x] 22)).drew.frozen? ⟨q, k, none⟩ = false := ta.cells.2.2.2.2.2.2
  have tb := ta.set4 t'.least
  have fB5 : ((wc.alloc (.cells #[.float .f64 l0, .float .f64 g0, .float .f64 x] 22)).setCell ⟨q, 4, none⟩ (.float .f64 t'.least)).drew.cell? ⟨q, 5, none⟩ = some (.float .f64 g0) := tb.cells.2.2.2.2.2.1
  have zB : ∀ k, ((wc.alloc (.cells #[.float .f64 l0, .float .f64 g0, .float .f64 x] 22)).setCell ⟨q, 4, none⟩ (.float .f64 t'.least)).drew.frozen? ⟨q, k, none⟩ = false := tb.cells.2.2.2.2.2.2
  have TA := Lib.hid ta
  clear ta tb
  go_region_law (first | (go_simp; go_at_call 76; refine (HED.out _ (by exact heap_alloc_new wc _)).mono ?_; rintro e w' ⟨rfl, rfl⟩))
  all_goals (go_wp2_with fail; go_end0)
  all_goals
    have hs5 := (TA.out.set4 t'.least).set5 t'.greatest
    have he : (⟨(n : Int) + 1, t'.sum, t'.mean, t'.m, t'.least, t'.greatest⟩ : Ta) = t' := by rw [← HN.out, ← HI.out.n]
    rw [he] at hs5
    exact ⟨rfl, hs5.of (by rfl), grown_trans T3.out.2 (grown_trans (grown_below ((Below.refl _ _).alloc (Nat.le_refl _) _) _) (grown_trans (grown_setCell _ _ _ _) (grown_trans (grown_setCell _ _ _ _) (grown_drewN _ 1 _))))⟩
end Go.Proofs.Ytbpnhpjcepgiiaa
