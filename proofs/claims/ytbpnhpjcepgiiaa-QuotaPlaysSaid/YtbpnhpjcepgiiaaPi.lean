/- QuotaPlays: the inputs that are refused; the arguments opened. -/
import Derived.Test.YtbpnhpjcepgiiaaPh
import Derived.Test.YtbpnhpjcepgiiaaQu
import Derived.Deep.RegionHeld3
import Derived.Deep.CutRange
import Derived.ChangeSlices
namespace Go.Proofs.Ytbpnhpjcepgiiaa
open Go.RowKit Fl
/-- a box that region 4 reads, kept by a call -/
theorem held_step {B X : Nat} {w0 W w' : World} {v0 v1 : Value} (b : Below W.heap.size W w') (h : W.cell? ⟨X, 0, none⟩ = some v0 ∧ W.cell? ⟨X, 1, none⟩ = some v1 ∧ Below B w0 W) (hB : B ≤ w0.heap.size) :
    w'.cell? ⟨X, 0, none⟩ = some v0 ∧ w'.cell? ⟨X, 1, none⟩ = some v1 ∧ Below B w0 w' :=
  ⟨by rw [b.cell (World.block_lt_of_cell? W _ h.1)]; exact h.1, by rw [b.cell (World.block_lt_of_cell? W _ h.2.1)]; exact h.2.1, h.2.2.trans (b.mono (Nat.le_trans hB h.2.2.size))⟩

theorem held_drew {B X : Nat} {w0 W : World} {v0 v1 : Value} (h : W.cell? ⟨X, 0, none⟩ = some v0 ∧ W.cell? ⟨X, 1, none⟩ = some v1 ∧ Below B w0 W) : W.drew.cell? ⟨X, 0, none⟩ = some v0 ∧ W.drew.cell? ⟨X, 1, none⟩ = some v1 ∧ Below B w0 W.drew := ⟨h.1, h.2.1, h.2.2.drew⟩
theorem held_in {B X : Nat} {w0 W : World} {v0 v1 : Value} (h : W.cell? ⟨X, 0, none⟩ = some v0 ∧ W.cell? ⟨X, 1, none⟩ = some v1 ∧ Below B w0 W) : Below B w0 W := h.2.2

set_option maxRecDepth 100000 in
set_option maxHeartbeats 1000000 in
theorem plays_long (r u : Nat) (now : Int) (a : Option Addr) (n cp : Nat) (w : World) (hn : 60 < n) :
    Calls Try.prog 5 #[.agg #[.float .f64 r, .float .f64 u], .int .i64 now, .slice a n cp] w fun e w' => e = .returned (.bool true) ∧ Below w.heap.size w w' := by
  have hd1 : decide ((60 : Int) < (n : Int)) = true := by simp; omega
  clear hn
  go_enter Try.func5, Try.ntmps5
  go_wp2_with fail
  refine (works_any _).mono ?_
  rintro e w9 ⟨rfl, hb9⟩
  go_wp2_with fail
  go_ret
  exact ⟨rfl, ((Below.refl _ _).alloc (Nat.le_refl _) _).trans (hb9.mono (by simp))⟩

set_option maxRecDepth 100000 in
set_option maxHeartbeats 4000000 in
theorem plays_noQ (r u : Nat) (now : Int) (a : Option Addr) (n cp : Nat) (w : World) (hr : r < 18446744073709551616) (hu : u < 18446744073709551616) (H0 : Hid (quotaB r u = false)) (hn : n ≤ 60) :
    Calls Try.prog 5 #[.agg #[.float .f64 r, .float .f64 u], .int .i64 now, .slice a n cp] w fun e w' => e = .returned (.bool true) ∧ Below w.heap.size w w' := by
  have HR := Lib.hid hr
  have HU := Lib.hid hu
  have hd1 : decide ((60 : Int) < (n : Int)) = false := by simp; omega
  clear hr hu
  go_enter Try.func5, Try.ntmps5
  go_wp2_with fail
  refine (new_no r u now _ (by rw [H0.out]; rfl) HR.out HU.out).mono ?_
  rintro e w1 ⟨rfl, hb1⟩
  have x0 : Hid (w1.cell? ⟨w.heap.size, 0, none⟩ = some (.float .f64 r) ∧ w1.cell? ⟨w.heap.size, 1, none⟩ = some (.float .f64 u)) := by
    refine Lib.hid ⟨?_, ?_⟩ <;> (rw [hb1.cell (by simp)]; simp [go_sem])
  have W1 : Hid (Below w.heap.size w w1) := Lib.hid (((Below.refl _ _).alloc (Nat.le_refl _) _).trans (hb1.mono (by simp)))
  have hsz1 : w.heap.size < w1.heap.size := by have := hb1.size; simp at this; omega
  clear hb1
  obtain ⟨c0, c1⟩ := x0.out
  go_upto_region 4 with fail
  go_cut [43] from 26 to 43 (fun s43 wx => s43 = .bool false ∧ Hid (Below w1.heap.size w1 wx))
  case first =>
    have hS : w1.cell? ⟨w.heap.size, 0, none⟩ = some (.float .f64 r) ∧ w1.cell? ⟨w.heap.size, 1, none⟩ = some (.float .f64 u) ∧ Below w1.heap.size w1 w1 := ⟨c0, c1, Below.refl _ _⟩
    clear c0 c1
    go_region_held3 (fun w' => w'.cell? ⟨w.heap.size, 0, none⟩ = some (.float .f64 r) ∧ w'.cell? ⟨w.heap.size, 1, none⟩ = some (.float .f64 u) ∧ Below w1.heap.size w1 w')
      (first | assumption | exact held_drew (by assumption) | exact held_step (by assumption) (by assumption) (Nat.le_refl _))
      (first
        | (go_at_call 10; refine (may_any r u _ HR.out HU.out).mono ?_; rintro e w' ⟨rfl, hb⟩; rw [H0.out])
        | (go_at_call 26; refine (check_any r u _ HR.out HU.out).mono ?_; rintro e w' ⟨rfl, hb⟩; rw [H0.out, show errB false = 2 from rfl])
        | (go_at_call 13; refine (num_any 2 _).mono ?_; rintro e w' ⟨rfl, rfl⟩))
    all_goals (go_wp2_with fail; go_meet)
    all_goals exact ⟨rfl, Lib.hid (held_in (by assumption))⟩
  case rest =>
  obtain ⟨rfl, B1⟩ := hcut
  have X1 : Hid (wc.cell? ⟨w.heap.size, 0, none⟩ = some (.float .f64 r) ∧ wc.cell? ⟨w.heap.size, 1, none⟩ = some (.float .f64 u)) := Lib.hid ⟨by rw [B1.out.cell (p := ⟨w.heap.size, 0, none⟩) hsz1]; exact c0, by rw [B1.out.cell (p := ⟨w.heap.size, 1, none⟩) hsz1]; exact c1⟩
  have W2 : Hid (Below w.heap.size w wc) := Lib.hid (W1.out.trans (B1.out.mono W1.out.size))
  clear c0 c1 x0 B1
  obtain ⟨c0, c1⟩ := X1.out
  go_wp2_with fail
  refine (may_any r u _ HR.out HU.out).mono ?_
  rintro e w2 ⟨rfl, hb2⟩
  rw [H0.out]
  have W3 : Hid (Below w.heap.size w w2) := Lib.hid (W2.out.trans (hb2.mono W2.out.size))
  clear hb2
  go_wp2_with fail
  refine (num_any 2 _).mono ?_
  rintro e w' ⟨rfl, rfl⟩
  go_wp2_with fail
  refine (works_any _).mono ?_
  rintro e w9 ⟨rfl, hb9⟩
  go_wp2_with fail
  go_ret
  exact ⟨rfl, W3.out.trans (hb9.mono W3.out.size)⟩

set_option maxRecDepth 100000 in
set_option maxHeartbeats 4000000 in
theorem plays_noT (r u : Nat) (now : Int) (a : Option Addr) (n cp : Nat) (w : World) (hr : r < 18446744073709551616) (hu : u < 18446744073709551616) (H0 : Hid (quotaB r u = true)) (HT : Hid (timeB now = false)) (hn : n ≤ 60) :
    Calls Try.prog 5 #[.agg #[.float .f64 r, .float .f64 u], .int .i64 now, .slice a n cp] w fun e w' => e = .returned (.bool true) ∧ Below w.heap.size w w' := by
  have HR := Lib.hid hr
  have HU := Lib.hid hu
  have hd1 : decide ((60 : Int) < (n : Int)) = false := by simp; omega
  clear hr hu
  go_enter Try.func5, Try.ntmps5
  go_wp2_with fail
  refine (new_no r u now _ (by rw [H0.out]; rw [HT.out]; rfl) HR.out HU.out).mono ?_
  rintro e w1 ⟨rfl, hb1⟩
  have x0 : Hid (w1.cell? ⟨w.heap.size, 0, none⟩ = some (.float .f64 r) ∧ w1.cell? ⟨w.heap.size, 1, none⟩ = some (.float .f64 u)) := by
    refine Lib.hid ⟨?_, ?_⟩ <;> (rw [hb1.cell (by simp)]; simp [go_sem])
  have W1 : Hid (Below w.heap.size w w1) := Lib.hid (((Below.refl _ _).alloc (Nat.le_refl _) _).trans (hb1.mono (by simp)))
  have hsz1 : w.heap.size < w1.heap.size := by have := hb1.size; simp at this; omega
  clear hb1
  obtain ⟨c0, c1⟩ := x0.out
  go_upto_region 4 with fail
  go_cut [43] from 26 to 43 (fun s43 wx => s43 = .bool false ∧ Hid (Below w1.heap.size w1 wx))
  case first =>
    have hBB : Below w1.heap.size w1 w1 := Below.refl _ _
    go_region_with (first
        | (go_at_call 10; refine (may_any r u _ HR.out HU.out).mono ?_; rintro e w' ⟨rfl, hb⟩; rw [H0.out]; obtain ⟨d0, d1, d2⟩ := held_step hb ⟨by assumption, by assumption, by first | assumption | exact Below.drew (by assumption)⟩ (Nat.le_refl w1.heap.size); clear hb)
        | (go_at_call 26; refine (check_any r u _ HR.out HU.out).mono ?_; rintro e w' ⟨rfl, hb⟩; rw [H0.out, show errB true = 0 from rfl]; obtain ⟨d0, d1, d2⟩ := held_step hb ⟨by assumption, by assumption, by first | assumption | exact Below.drew (by assumption)⟩ (Nat.le_refl w1.heap.size); clear hb)
        | (go_at_call 13; refine (num_any 0 _).mono ?_; rintro e w' ⟨rfl, rfl⟩))
    all_goals (go_wp2_with fail; go_meet)
    all_goals exact ⟨rfl, Lib.hid (by assumption)⟩
  case rest =>
  obtain ⟨rfl, B1⟩ := hcut
  have X1 : Hid (wc.cell? ⟨w.heap.size, 0, none⟩ = some (.float .f64 r) ∧ wc.cell? ⟨w.heap.size, 1, none⟩ = some (.float .f64 u)) := Lib.hid ⟨by rw [B1.out.cell (p := ⟨w.heap.size, 0, none⟩) hsz1]; exact c0, by rw [B1.out.cell (p := ⟨w.heap.size, 1, none⟩) hsz1]; exact c1⟩
  have W2 : Hid (Below w.heap.size w wc) := Lib.hid (W1.out.trans (B1.out.mono W1.out.size))
  clear c0 c1 x0 B1
  obtain ⟨c0, c1⟩ := X1.out
  go_wp2_with fail
  refine (may_any r u _ HR.out HU.out).mono ?_
  rintro e w2 ⟨rfl, hb2⟩
  rw [H0.out]
  have W3 : Hid (Below w.heap.size w w2) := Lib.hid (W2.out.trans (hb2.mono W2.out.size))
  clear hb2
  go_wp2_with fail
  refine (reftime_any now _).mono ?_
  rintro e w' ⟨rfl, rfl⟩
  rw [HT.out]
  go_wp2_with fail
  refine (num_any 2 _).mono ?_
  rintro e w' ⟨rfl, rfl⟩
  go_wp2_with fail
  refine (works_any _).mono ?_
  rintro e w9 ⟨rfl, hb9⟩
  go_wp2_with fail
  go_ret
  exact ⟨rfl, W3.out.trans (hb9.mono W3.out.size)⟩

/-- what is asked -/
structure AskT where
  kind : Int
  client : Int
  r : Nat
  u : Nat
  cost : Nat
  now : Int
def AskT.val (x : AskT) : Value := .agg #[.int .i64 x.kind, .int .i64 x.client, .float .f64 x.r, .float .f64 x.u, .float .f64 x.cost, .int .i64 x.now]
structure AskAt (w : World) (a : Addr) (x : AskT) : Prop where
  c0 : w.cell? a = some (.int .i64 x.kind)
  c1 : w.cell? ⟨a.block, a.off + 1, none⟩ = some (.int .i64 x.client)
  c2 : w.cell? ⟨a.block, a.off + 2, none⟩ = some (.float .f64 x.r)
  c3 : w.cell? ⟨a.block, a.off + 3, none⟩ = some (.float .f64 x.u)
  c4 : w.cell? ⟨a.block, a.off + 4, none⟩ = some (.float .f64 x.cost)
  c5 : w.cell? ⟨a.block, a.off + 5, none⟩ = some (.int .i64 x.now)
  r64 : x.r < 18446744073709551616
  u64 : x.u < 18446744073709551616
  c64 : x.cost < 18446744073709551616
/-- a row of what is asked -/
def AsksAt (w : World) (a : Option Addr) (n : Nat) (f : Nat → AskT) : Prop := ∀ i, i < n → ∃ ad, a = some ad ∧ AskAt w (ad.add (i * 6)) (f i)
theorem AskAt.below {w w' : World} {a : Addr} {x : AskT} (h : AskAt w a x) (b : Below w.heap.size w w') : AskAt w' a x := by
  have hb : ∀ (p : Addr) v, w.cell? p = some v → w'.cell? p = some v := fun p v hv => by rw [b.cell (World.block_lt_of_cell? w _ hv)]; exact hv
  exact ⟨hb _ _ h.c0, hb _ _ h.c1, hb _ _ h.c2, hb _ _ h.c3, hb _ _ h.c4, hb _ _ h.c5, h.r64, h.u64, h.c64⟩
theorem AsksAt.below {w w' : World} {a : Option Addr} {n : Nat} {f : Nat → AskT} (h : AsksAt w a n f) (b : Below w.heap.size w w') : AsksAt w' a n f := fun i hi => by
  obtain ⟨ad, h1, h2⟩ := h i hi
  exact ⟨ad, h1, h2.below b⟩


theorem cells_get {w : World} {base : Nat} {a : Addr} {n : Nat} {cs : List Value} (h : w.cells? base a n = some cs) : cs.length = n ∧ ∀ i, i < n → w.cell? (a.add i) = cs[i]? := by
  unfold World.cells? at h
  split at h
  · refine ⟨by rw [mapM_some_length h, List.length_range], fun i hi => ?_⟩
    exact mapM_some_get h i i (by rw [List.getElem?_range hi])
  · cases h

section
open Go.ChangeShapes Go.WideShapes Go.ChangeAt Go.Joins
variable {H : Type} {enc : TypeId × Value → H} {w : World} {base b1 : Nat} {spare : Nat → Bool} {held : Bool} {rc : Reach} {v : Value} {d : DataW H} {p : List MemPlace}
theorem cells_ask : Try.prog.cellsOf 61 = 6 := by kernel_rfl
set_option maxHeartbeats 400000 in
theorem open_ask {n : Nat} {c0 c1 c2 c3 c4 c5 : Value} {y : DataW H × List MemPlace} (h : DataW.trod enc Try.prog w base spare held n 61 [c0, c1, c2, c3, c4, c5] = some y) :
    ∃ x : AskT, c0 = .int .i64 x.kind ∧ c1 = .int .i64 x.client ∧ c2 = .float .f64 x.r ∧ c3 = .float .f64 x.u ∧ c4 = .float .f64 x.cost ∧ c5 = .int .i64 x.now ∧
      x.r < 18446744073709551616 ∧ x.u < 18446744073709551616 ∧ x.cost < 18446744073709551616 := by
  obtain ⟨xs, m, _, _, _, hlen, hg⟩ := DataW.trod_struct Try.underlying61 h
  match xs, hlen with
  | [y0, y1, y2, y3, y4], _ =>
    have g0 := hg 0 { name := "Kind", type := 3, offset := 0, embedded := false, tag := "", pkgPath := "", byteOffset := 0 } rfl
    have g1 := hg 1 { name := "Client", type := 3, offset := 1, embedded := false, tag := "", pkgPath := "", byteOffset := 8 } rfl
    have g2 := hg 2 { name := "Q", type := 24, offset := 2, embedded := false, tag := "", pkgPath := "", byteOffset := 16 } rfl
    have g3 := hg 3 { name := "Cost", type := 22, offset := 4, embedded := false, tag := "", pkgPath := "", byteOffset := 32 } rfl
    have g4 := hg 4 { name := "Now", type := 2, offset := 5, embedded := false, tag := "", pkgPath := "", byteOffset := 40 } rfl
    simp only [quotaWaits.cells_quota, quotaWaits.cells_float, quotaWaits.cells_i64, quotaWaits.cells_int, List.drop_zero, List.take_succ_cons, List.take_zero, List.drop_succ_cons, List.getElem?_cons_zero, List.getElem?_cons_succ] at g0 g1 g2 g3 g4
    obtain ⟨kd, hk, _, _⟩ := DataW.trod_int Try.underlying3 g0
    obtain ⟨cl, hcl, _, _⟩ := DataW.trod_int Try.underlying3 g1
    obtain ⟨r, u, hr1, hu1, hr2, hu2⟩ := quotaWaits.open_quota (W := w) g2
    obtain ⟨co, hc1, hc2⟩ := quotaWaits.trod_float Try.underlying22 g3
    obtain ⟨nw, hn, _, _⟩ := DataW.trod_int Try.underlying2 g4
    simp only [List.cons.injEq, and_true] at hk hcl hn
    exact ⟨⟨kd, cl, r, u, co, nw⟩, hk, hcl, hr1, hu1, hc1, hn, hr2, hu2, hc2⟩
def IsScript (w : World) (v : Value) : Prop := ∃ (a : Option Addr) (n c : Nat) (f : Nat → AskT), v = .slice a n c ∧ AsksAt w a n f
instance : Inhabited AskT := ⟨⟨0, 0, 0, 0, 0, 0⟩⟩
set_option maxRecDepth 100000 in
theorem isScript (hv : Value.okWide Try.prog w rc b1 52 v) (h : DataW.Trod enc Try.prog w base spare held 52 v d p) : IsScript w v := by
  obtain ⟨ax, n, c, rfl⟩ := okWide_slice Try.underlying52 hv
  obtain ⟨fuel, hf⟩ := h
  rcases Deep.open_slice Try.underlying52 hf with ⟨hc, _⟩ | ⟨a, len, cap, m, k, D, Pl, hc, _, hl, hm, hmm, hx, hall⟩
  · have hc' : [Value.slice ax n c] = [.slice none 0 0] := hc
    simp only [List.cons.injEq, and_true, Value.slice.injEq] at hc'
    obtain ⟨rfl, rfl, rfl⟩ := hc'
    exact ⟨none, 0, 0, fun _ => default, rfl, fun i hi => absurd hi (Nat.not_lt_zero i)⟩
  · have hc' : [Value.slice ax n c] = [.slice (some a) len cap] := hc
    simp only [List.cons.injEq, and_true, Value.slice.injEq] at hc'
    obtain ⟨rfl, rfl, rfl⟩ := hc'
    have hlm : n ≤ m := by rw [hmm]; split <;> omega
    rw [cells_ask] at hall
    obtain ⟨f, hF⟩ := Deep.choose_lt (n := n) (p := fun i x => AskAt w (a.add (i * 6)) x) fun i hi => by
      obtain ⟨cs, h1, h2⟩ := hall i (by omega)
      obtain ⟨hlen, hget⟩ := cells_get h1
      match cs, hlen with
      | [c0, c1, c2, c3, c4, c5], _ =>
        obtain ⟨x, rfl, rfl, rfl, rfl, rfl, rfl, hr, hu, hco⟩ := open_ask (w := w) h2
        have hj : ∀ j : Nat, 0 < j → (a.add (i * 6)).add j = ⟨(a.add (i * 6)).block, (a.add (i * 6)).off + j, none⟩ := fun j hj => if_neg (by omega)
        have z0 := hget 0 (by omega)
        have z1 := hget 1 (by omega)
        have z2 := hget 2 (by omega)
        have z3 := hget 3 (by omega)
        have z4 := hget 4 (by omega)
        have z5 := hget 5 (by omega)
        rw [show (a.add (i * 6)).add 0 = a.add (i * 6) by rw [Addr.add, if_pos rfl]] at z0
        rw [hj 1 (by omega)] at z1
        rw [hj 2 (by omega)] at z2
        rw [hj 3 (by omega)] at z3
        rw [hj 4 (by omega)] at z4
        rw [hj 5 (by omega)] at z5
        exact ⟨x, z0, z1, z2, z3, z4, z5, hr, hu, hco⟩
    exact ⟨some a, _, _, f, rfl, fun i hi => ⟨a, rfl, hF i hi⟩⟩
end
end Go.Proofs.Ytbpnhpjcepgiiaa
