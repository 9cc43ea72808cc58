/- Stats: New, Add, Told. -/
import Derived.Test.YtbpnhpjcepgiiaaSc
import Derived.Deep.LoopGhost
import Derived.BigRegion
namespace Go.Proofs.Ytbpnhpjcepgiiaa
open Go.RowKit Fl

theorem tnew_b (w : World) : Calls Try.prog 36 #[] w fun e w' => e = .returned (.pointer (some ⟨w.heap.size, 0, none⟩)) ∧ TaAt w' w.heap.size ⟨0, 0, 0, 0, 0, 0⟩ ∧ Below w.heap.size w w' := by
  go_enter Try.func36, Try.ntmps36
  go_wp2
  go_ret
  exact ⟨rfl, ⟨heap_alloc_new _ _⟩, (Below.refl _ _).alloc (Nat.le_refl _) _⟩

set_option maxHeartbeats 400000 in
theorem add_b (q : Nat) (ad : Addr) (n c : Nat) (f : Nat → Nat) (ts : Nat → Ta) (w : World) (h : TaAt w q (ts 0)) (hf : FloatsAt w (some ad) n f) (hq : ad.block ≠ q) (hn : n ≤ 65536) (hts : ∀ i, i < n → InOk (ts i) (f i) (ts (i + 1))) :
    Calls Try.prog 41 #[.pointer (some ⟨q, 0, none⟩), .slice (some ad) n c] w fun e w' => e = .returned (.int .i64 0) ∧ TaAt w' q (ts n) ∧ w.grownBy w' (some q) := by
  have H := Lib.hid h
  have HF := Lib.hid hf
  have HT := Lib.hid hts
  have HQ := Lib.hid hq
  have hd : decide ((65536 : Int) < (n : Int)) = false := by simp; omega
  clear h hf hts hq
  go_enter Try.func41, Try.ntmps41
  go_wp2_with fail
  go_loopg [16] n (fun g s16 wr => ∃ k : Nat, s16 = .int .i64 k ∧ g = n - k ∧ k ≤ n ∧ Hid (TaAt wr q (ts k) ∧ w.grownBy wr (some q)))
  case atStart => exact ⟨0, rfl, rfl, Nat.zero_le _, Lib.hid ⟨H.out, World.grownBy.refl _ _⟩⟩
  case round =>
    obtain ⟨k, rfl, hg, hk, HI⟩ := hrel
    by_cases hlt : k < n
    · have hdk : decide ((k : Int) < (n : Int)) = true := by simp; omega
      obtain ⟨ad1, h1, c1, hb1, _⟩ := HF.out k hlt
      obtain rfl := Option.some.inj h1
      have c2 : wr.cell? (ad.add k) = some (.float .f64 (f k)) := by
        have hbk : (ad.add k).block = ad.block := by unfold Addr.add; split <;> rfl
        rw [World.cell?_of_block (w := w) (HI.out.2.block _ (by rw [hbk]; exact hb1) (by simp; rw [hbk]; exact fun e => HQ.out (by first | exact e | exact e.symm)))]
        exact c1
      clear h1 c1 hb1
      go_wp2_with fail
      refine (in_b q (f k) (ts k) (ts (k + 1)) _ HI.out.1 (HT.out k hlt)).mono ?_
      rintro e w1 ⟨rfl, ht1, hg1⟩
      have HI1 : Hid (TaAt w1 q (ts (k + 1)) ∧ w.grownBy w1 (some q)) := Lib.hid ⟨ht1, grown_trans HI.out.2 hg1⟩
      clear ht1 hg1
      go_wp2_with fail
      go_roundg (n - (k + 1))
      case measure => omega
      case rel => exact ⟨k + 1, by go_num, rfl, by omega, HI1⟩
    · obtain rfl : k = n := by omega
      have hdk : decide ((k : Int) < (k : Int)) = false := by simp
      go_wp2_with fail
      try rw [Exit.noGoto_ret]
      go_ret
      exact ⟨rfl, HI.out.1, HI.out.2⟩

set_option maxRecDepth 100000 in
set_option maxHeartbeats 1000000 in
theorem told_t (q : Nat) (t : Ta) (sp : Nat) (w : World) (h : TaAt w q t) (hn0 : 0 < t.n) (hn1 : t.n < 9007199254740992) (hsp : Ieee.double.div t.m (i2r t.n.toNat) = some sp) :
    Calls Try.prog 40 #[.pointer (some ⟨q, 0, none⟩)] w fun e w' => e = .returned (.tuple #[.agg #[.int .i64 t.n, .float .f64 t.sum, .float .f64 t.mean, .float .f64 sp, .float .f64 t.least, .float .f64 t.greatest], .int .i64 0]) ∧ Below w.heap.size w w' := by
  obtain ⟨n, hn⟩ : ∃ n : Nat, t.n = (n : Int) := ⟨t.n.toNat, by omega⟩
  obtain ⟨nf, hnf⟩ : ∃ nf, nf = i2r t.n.toNat := ⟨_, rfl⟩
  rw [← hnf] at hsp
  have hcv : floatOfInt .f64 t.n = nf := by rw [hnf, hn]; exact floatOfInt_nat n
  have hdv := fun (T : TypeId) (W : World) => run_float_arith (P := Try.prog) W .quo T .f64 t.m nf sp hsp
  have hz : (t.n == 0) = false := by simp; omega
  obtain ⟨tn, htn⟩ : ∃ tn, tn = t.n := ⟨_, rfl⟩
  have hsf := run_store_float
  have h0 : (w.alloc (.cells #[.int .i64 0, .float .f64 0, .float .f64 0, .float .f64 0, .float .f64 0, .float .f64 0] 92)).heap[q]? = w.heap[q]? := Below.heap_alloc _ _ _ h.lt
  obtain ⟨c0, c1, c2, c3, c4, c5, -⟩ := (h.of h0).cells
  rw [← htn] at c0 hcv hz ⊢
  have hne : ¬ w.heap.size = q := fun e => Nat.lt_irrefl _ (e ▸ h.lt)
  clear h0 h hn0 hn1 hn hnf hsp htn
  go_enter Try.func40, Try.ntmps40
  go_wp2_with fail
  go_region
  all_goals go_wp2_with fail
  all_goals exact bodyPost_ret (v := .tuple #[.agg #[.int .i64 tn, .float .f64 t.sum, .float .f64 t.mean, .float .f64 sp, .float .f64 t.least, .float .f64 t.greatest], .int .i64 0]) (by simp [results, Try.results40, go_sem]) rfl ⟨rfl, (((Below.refl _ _).alloc (Nat.le_refl _) _).drew)⟩
end Go.Proofs.Ytbpnhpjcepgiiaa
