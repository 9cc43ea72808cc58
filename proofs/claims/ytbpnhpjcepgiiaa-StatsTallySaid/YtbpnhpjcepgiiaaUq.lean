/- StatsTally: the script opened. -/
import Derived.Test.YtbpnhpjcepgiiaaUp
import Derived.Test.YtbpnhpjcepgiiaaQu
import Derived.Test.YtbpnhpjcepgiiaaSh
namespace Go.Proofs.Ytbpnhpjcepgiiaa
open Go.RowKit Fl

structure AskT where
  kind : Int
  oa : Option Addr
  n : Nat
  c : Nat
  f : Nat → Nat
structure AskAt (w : World) (a : Addr) (x : AskT) : Prop where
  c0 : w.cell? a = some (.int .i64 x.kind)
  c1 : w.cell? ⟨a.block, a.off + 1, none⟩ = some (.slice x.oa x.n x.c)
  fl : FloatsAt w x.oa x.n x.f
/-- a row of what is asked -/
def AsksAt (w : World) (a : Option Addr) (n : Nat) (f : Nat → AskT) : Prop := ∀ i, i < n → ∃ ad, a = some ad ∧ AskAt w (ad.add (i * 2)) (f i)
theorem AskAt.below {w w' : World} {a : Addr} {x : AskT} (h : AskAt w a x) (b : Below w.heap.size w w') : AskAt w' a x := by
  have hb : ∀ (p : Addr) v, w.cell? p = some v → w'.cell? p = some v := fun p v hv => by rw [b.cell (World.block_lt_of_cell? w _ hv)]; exact hv
  exact ⟨hb _ _ h.c0, hb _ _ h.c1, h.fl.below b⟩
theorem AsksAt.below {w w' : World} {a : Option Addr} {n : Nat} {f : Nat → AskT} (h : AsksAt w a n f) (b : Below w.heap.size w w') : AsksAt w' a n f := fun i hi => by
  obtain ⟨ad, h1, h2⟩ := h i hi
  exact ⟨ad, h1, h2.below b⟩
theorem cells_get {w : World} {base : Nat} {a : Addr} {n : Nat} {cs : List Value} (h : w.cells? base a n = some cs) : cs.length = n ∧ ∀ i, i < n → w.cell? (a.add i) = cs[i]? := by
  unfold World.cells? at h
  split at h
  · refine ⟨by rw [mapM_some_length h, List.length_range], fun i hi => ?_⟩
    exact mapM_some_get h i i (by rw [List.getElem?_range hi])
  · cases h

section
open Go.ChangeShapes Go.WideShapes Go.ChangeAt Go.Joins
variable {H : Type} {enc : TypeId × Value → H} {w : World} {base b1 : Nat} {spare : Nat → Bool} {held : Bool} {rc : Reach} {v : Value} {d : DataW H} {p : List MemPlace}
theorem cells_ask : Try.prog.cellsOf 88 = 2 := by kernel_rfl
theorem cells_lf : Try.prog.cellsOf 25 = 1 := by kernel_rfl
set_option maxRecDepth 100000 in
theorem open_floats {fuel : Nat} {v : Value} {y : DataW H × List MemPlace} (hf : DataW.trod enc Try.prog w base spare held fuel 25 [v] = some y) : quotaHolds.IsFloats w v := by
  rcases Deep.open_slice1 Try.underlying25 quotaWaits.cells_float hf with ⟨hc, _⟩ | ⟨a, len, cap, m, k, V, D, Pl, hc, _, hl, hm, hmm, hx, hall⟩
  · have hc' : [v] = [.slice none 0 0] := hc
    simp only [List.cons.injEq, and_true] at hc'
    subst hc'
    exact ⟨none, 0, 0, fun _ => 0, rfl, fun i hi => absurd hi (Nat.not_lt_zero i)⟩
  · have hc' : [v] = [.slice (some a) len cap] := hc
    simp only [List.cons.injEq, and_true] at hc'
    subst hc'
    have hlm : len ≤ m := by rw [hmm]; split <;> omega
    obtain ⟨f, hF⟩ := Deep.choose_lt (n := len) (p := fun i x => V i = .float .f64 x ∧ x < 18446744073709551616) fun i hi => quotaWaits.trod_float Try.underlying22 (hall i (by omega)).2
    refine ⟨some a, _, _, f, rfl, fun i hi => ⟨a, rfl, ?_, ?_, (hF i hi).2⟩⟩
    · rw [(hall i (by omega)).1, (hF i hi).1]
    · have := World.block_lt_of_cell? w _ (hall i (by omega)).1
      rwa [show (a.add i).block = a.block by unfold Addr.add; split <;> rfl] at this
set_option maxHeartbeats 400000 in
theorem open_ask {n : Nat} {c0 c1 : Value} {y : DataW H × List MemPlace} (h : DataW.trod enc Try.prog w base spare held n 88 [c0, c1] = some y) :
    ∃ x : AskT, c0 = .int .i64 x.kind ∧ c1 = .slice x.oa x.n x.c ∧ FloatsAt w x.oa x.n x.f := by
  obtain ⟨xs, m, _, _, _, hlen, hg⟩ := DataW.trod_struct Try.underlying88 h
  match xs, hlen with
  | [y0, y1], _ =>
    have g0 := hg 0 { name := "Kind", type := 3, offset := 0, embedded := false, tag := "", pkgPath := "", byteOffset := 0 } rfl
    have g1 := hg 1 { name := "L", type := 25, offset := 1, embedded := false, tag := "", pkgPath := "", byteOffset := 8 } rfl
    simp only [cells_lf, quotaWaits.cells_int, List.drop_zero, List.take_succ_cons, List.take_zero, List.drop_succ_cons, List.getElem?_cons_zero, List.getElem?_cons_succ] at g0 g1
    obtain ⟨kd, hk, _, _⟩ := DataW.trod_int Try.underlying3 g0
    obtain ⟨oa, k, c, f, rfl, hF⟩ := open_floats (w := w) g1
    simp only [List.cons.injEq, and_true] at hk
    exact ⟨⟨kd, oa, k, c, f⟩, hk, rfl, hF⟩
def IsScript (w : World) (v : Value) : Prop := ∃ (a : Option Addr) (n c : Nat) (f : Nat → AskT), v = .slice a n c ∧ AsksAt w a n f
instance : Inhabited AskT := ⟨⟨0, none, 0, 0, fun _ => 0⟩⟩
set_option maxRecDepth 100000 in
theorem isScript (hv : Value.okWide Try.prog w rc b1 77 v) (h : DataW.Trod enc Try.prog w base spare held 77 v d p) : IsScript w v := by
  obtain ⟨ax, n, c, rfl⟩ := okWide_slice Try.underlying77 hv
  obtain ⟨fuel, hf⟩ := h
  rcases Deep.open_slice Try.underlying77 hf with ⟨hc, _⟩ | ⟨a, len, cap, m, k, D, Pl, hc, _, hl, hm, hmm, hx, hall⟩
  · have hc' : [Value.slice ax n c] = [.slice none 0 0] := hc
    simp only [List.cons.injEq, and_true, Value.slice.injEq] at hc'
    obtain ⟨rfl, rfl, rfl⟩ := hc'
    exact ⟨none, 0, 0, fun _ => default, rfl, fun i hi => absurd hi (Nat.not_lt_zero i)⟩
  · have hc' : [Value.slice ax n c] = [.slice (some a) len cap] := hc
    simp only [List.cons.injEq, and_true, Value.slice.injEq] at hc'
    obtain ⟨rfl, rfl, rfl⟩ := hc'
    have hlm : n ≤ m := by rw [hmm]; split <;> omega
    rw [cells_ask] at hall
    obtain ⟨f, hF⟩ := Deep.choose_lt (n := n) (p := fun i x => AskAt w (a.add (i * 2)) x) fun i hi => by
      obtain ⟨cs, h1, h2⟩ := hall i (by omega)
      obtain ⟨hlen, hget⟩ := cells_get h1
      match cs, hlen with
      | [c0, c1], _ =>
        obtain ⟨x, rfl, rfl, hfl⟩ := open_ask (w := w) h2
        have hj : ∀ j : Nat, 0 < j → (a.add (i * 2)).add j = ⟨(a.add (i * 2)).block, (a.add (i * 2)).off + j, none⟩ := fun j hj => if_neg (by omega)
        have z0 := hget 0 (by omega)
        have z1 := hget 1 (by omega)
        rw [show (a.add (i * 2)).add 0 = a.add (i * 2) by rw [Addr.add, if_pos rfl]] at z0
        rw [hj 1 (by omega)] at z1
        exact ⟨x, z0, z1, hfl⟩
    exact ⟨some a, _, _, f, rfl, fun i hi => ⟨a, rfl, hF i hi⟩⟩
end
end Go.Proofs.Ytbpnhpjcepgiiaa
