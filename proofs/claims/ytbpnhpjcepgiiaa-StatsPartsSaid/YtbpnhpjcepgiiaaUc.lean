/- Stats: Add of any floats. -/
import Derived.Test.YtbpnhpjcepgiiaaUb
import Derived.Deep.LoopGhost
namespace Go.Proofs.Ytbpnhpjcepgiiaa
open Go.RowKit Fl

/-- the first k numbers of f came into t: t' -/
inductive Ins (f : Nat → Nat) (t : Ta) : Nat → Ta → Prop
  | zero : Ins f t 0 t
  | succ {k : Nat} {s s' : Ta} : Ins f t k s → InAny s (f k) s' → Ins f t (k + 1) s'
/-- a tally in order -/
structure TaOk (t : Ta) : Prop where
  n0 : 0 ≤ t.n
  b1 : t.least < 18446744073709551616
  b2 : t.greatest < 18446744073709551616
theorem f3_lt (a b c : Nat) (ha : a < 18446744073709551616) (hb : b < 18446744073709551616) (hc : c < 18446744073709551616) (i : Nat) : f3 a b c i < 18446744073709551616 := by
  unfold f3; split
  · exact ha
  · split
    · exact hb
    · exact hc
theorem InAny.ok {t t' : Ta} {x : Nat} (h : InAny t x t') (hk : TaOk t) (hx : x < 18446744073709551616) : TaOk t' := by
  refine ⟨by rw [h.n]; have := hk.n0; omega, ?_, ?_⟩
  · rw [h.least]
    exact minTo_lt _ 2 fun i _ => f3_lt _ _ _ (by split; exact hx; exact hk.b1) (by split; exact hx; exact hk.b2) hx i
  · rw [h.greatest]
    exact maxTo_lt _ 2 fun i _ => f3_lt _ _ _ (by split; exact hx; exact hk.b1) (by split; exact hx; exact hk.b2) hx i
theorem Ins.ok {f : Nat → Nat} {t t' : Ta} {k : Nat} (h : Ins f t k t') (hk : TaOk t) (hf : ∀ i, i < k → f i < 18446744073709551616) : TaOk t' ∧ t'.n = t.n + k := by
  induction h with
  | zero => exact ⟨hk, by simp⟩
  | succ h1 h2 ih =>
    obtain ⟨i1, i2⟩ := ih fun i hi => hf i (by omega)
    exact ⟨h2.ok i1 (hf _ (by omega)), by rw [h2.n, i2]; push_cast; omega⟩

set_option maxHeartbeats 400000 in
theorem add_any (q : Nat) (oa : Option Addr) (n c : Nat) (f : Nat → Nat) (t : Ta) (w : World) (h : TaAt w q t) (hk : TaOk t) (hf : FloatsAt w oa n f) (hq : 0 < n → ∀ ad, oa = some ad → ad.block ≠ q) (hn : n ≤ 65536) (hn1 : t.n + n < 1000000000000) :
    Calls Try.prog 41 #[.pointer (some ⟨q, 0, none⟩), .slice oa n c] w fun e w' => e = .returned (.int .i64 0) ∧ ∃ t', Ins f t n t' ∧ TaAt w' q t' ∧ w.grownBy w' (some q) := by
  have H := Lib.hid h
  have HF := Lib.hid hf
  have HK := Lib.hid hk
  have HQ := Lib.hid hq
  have HN := Lib.hid hn1
  have hd : decide ((65536 : Int) < (n : Int)) = false := by simp; omega
  clear h hf hk hq hn1
  go_enter Try.func41, Try.ntmps41
  go_wp2_with fail
  go_loopg [16] n (fun g s16 wr => ∃ k : Nat, s16 = .int .i64 k ∧ g = n - k ∧ k ≤ n ∧ ∃ s, Hid (Ins f t k s ∧ TaAt wr q s ∧ w.grownBy wr (some q)))
  case atStart => exact ⟨0, rfl, rfl, Nat.zero_le _, t, Lib.hid ⟨.zero, H.out, World.grownBy.refl _ _⟩⟩
  case round =>
    obtain ⟨k, rfl, hg, hk, s, HI⟩ := hrel
    by_cases hlt : k < n
    · have hdk : decide ((k : Int) < (n : Int)) = true := by simp; omega
      obtain ⟨ad, ha, c1, hb1, hfl⟩ := HF.out k hlt
      subst ha
      have c2 : wr.cell? (ad.add k) = some (.float .f64 (f k)) := by
        have hbk : (ad.add k).block = ad.block := by unfold Addr.add; split <;> rfl
        rw [World.cell?_of_block (w := w) (HI.out.2.2.block _ (by rw [hbk]; exact hb1) (by simp; rw [hbk]; exact fun e => HQ.out (by omega) ad rfl (by first | exact e | exact e.symm)))]
        exact c1
      obtain ⟨ok1, ok2⟩ := HI.out.1.ok HK.out (fun i hi => by obtain ⟨_, _, _, _, h⟩ := HF.out i (by omega); exact h)
      have HO := Lib.hid (And.intro ok1 (And.intro ok2 hfl))
      clear c1 hb1 ok1 ok2 hfl
      go_wp2_with fail
      refine (in_any q (f k) s _ HI.out.2.1 HO.out.1.n0 (by have := HO.out.2.1; have := HN.out; omega) HO.out.1.b1 HO.out.1.b2 HO.out.2.2).mono ?_
      rintro e w1 ⟨rfl, s', hs', ht1, hg1⟩
      have HI1 : Hid (Ins f t (k + 1) s' ∧ TaAt w1 q s' ∧ w.grownBy w1 (some q)) := Lib.hid ⟨.succ HI.out.1 hs', ht1, grown_trans HI.out.2.2 hg1⟩
      clear hs' ht1 hg1
      go_wp2_with fail
      go_roundg (n - (k + 1))
      case measure => omega
      case rel => exact ⟨k + 1, by go_num, rfl, by omega, s', HI1⟩
    · obtain rfl : k = n := by omega
      have hdk : decide ((k : Int) < (k : Int)) = false := by simp
      go_wp2_with fail
      try rw [Exit.noGoto_ret]
      go_ret
      exact ⟨rfl, s, HI.out.1, HI.out.2.1, HI.out.2.2⟩
end Go.Proofs.Ytbpnhpjcepgiiaa
