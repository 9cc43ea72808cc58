/- StatsLag: the document's Lag. -/
import Derived.Test.YtbpnhpjcepgiiaaSi
import Derived.Deep.QuietTactic
import Derived.BigQuiet
namespace Go.Proofs.Ytbpnhpjcepgiiaa
open Go.RowKit Fl

set_option maxRecDepth 100000 in
set_option maxHeartbeats 2000000 in
theorem rlag_b (am ap : Option Addr) (n cm cp : Nat) (fm fp : Nat → Int) (w : World) (hm : TimesAt w am n fm) (hp : TimesAt w ap n fp) (hn : n ≤ 40) :
    Calls Try.prog 33 #[.slice am n cm, .slice ap n cp] w fun e w' => ∃ (s : Int) (z : Nat) (er : Int), e = .returned (.tuple #[.int .i64 s, .float .f64 z, .int .i64 er]) ∧ LagIs n fm fp s z er ∧ ∃ k, w' = w.drewN k := by
  have HM := Lib.hid hm
  have HP := Lib.hid hp
  clear hm hp
  have hnn : ((n : Int) == (n : Int)) = true := by simp
  go_enter Try.func33, Try.ntmps33
  go_wp2_with fail
  go_loopg [7] n (fun g s7 wr => ∃ k : Nat, s7 = .int .i64 k ∧ g = n - k ∧ k ≤ n ∧ Hid (allL k fm fp) ∧ ∃ j, wr = w.drewN j)
  case atStart => exact ⟨0, rfl, rfl, Nat.zero_le _, Lib.hid (fun i hi => absurd hi (Nat.not_lt_zero i)), 0, rfl⟩
  case round =>
    obtain ⟨k, rfl, hg, hk, HA, j, rfl⟩ := hrel
    by_cases hlt : k < n
    · have hdk : decide ((k : Int) < (n : Int)) = true := by simp; omega
      obtain ⟨adm, ham, c1, _⟩ := HM.out k hlt
      obtain ⟨adp, hap, c2, _⟩ := HP.out k hlt
      subst ham hap
      obtain ⟨m, hm⟩ : ∃ m, m = fm k := ⟨_, rfl⟩
      obtain ⟨p, hp⟩ : ∃ p, p = fp k := ⟨_, rfl⟩
      rw [← hm] at c1
      rw [← hp] at c2
      have d1 : (w.drewN j).cell? (adm.add k) = some (.int .i64 m) := c1
      have d2 : (w.drewN j).cell? (adp.add k) = some (.int .i64 p) := c2
      have e1 : (w.drewN j).drew.cell? (adm.add k) = some (.int .i64 m) := c1
      have e2 : (w.drewN j).drew.cell? (adp.add k) = some (.int .i64 p) := c2
      have HMP := Lib.hid (And.intro hm hp)
      clear hm hp
      have nbad : badL m p = true → ¬ allL n fm fp := fun h ha => by
        have := ha k hlt
        rw [← HMP.out.1, ← HMP.out.2, h] at this
        cases this
      have HNB := Lib.hid nbad
      clear nbad
      have hkI : (k : Int) < (n : Int) := by omega
      by_cases h1 : p < 0
      · have hd1 : decide (p < 0) = true := decide_eq_true h1
        have HX : Hid (¬ allL n fm fp) := Lib.hid (HNB.out (by simp [badL, h1]))
        clear h1
        go_wp2_with fail
        go_quiet (fail)
        go_wp2_with fail
        go_ret3
        exact ⟨0, 0, 2, rfl, .inl ⟨HX.out, rfl, rfl, rfl⟩, _, World.drewN_drewN ..⟩
      · have hd1 : decide (p < 0) = false := decide_eq_false h1
        by_cases h2 : m < p
        · have hd2 : decide (m < p) = true := decide_eq_true h2
          have HX : Hid (¬ allL n fm fp) := Lib.hid (HNB.out (by simp [badL, h2]))
          clear h1 h2
          go_wp2_with fail
          go_quiet (fail)
          go_wp2_with fail
          go_ret3
          exact ⟨0, 0, 2, rfl, .inl ⟨HX.out, rfl, rfl, rfl⟩, _, World.drewN_drewN ..⟩
        · have hd2 : decide (m < p) = false := decide_eq_false h2
          by_cases h3 : 9007199254740992 < m
          · have hd3 : decide (9007199254740992 < m) = true := decide_eq_true h3
            have HX : Hid (¬ allL n fm fp) := Lib.hid (HNB.out (by simp [badL, h3]))
            clear h1 h2 h3
            go_wp2_with fail
            go_quiet (fail)
            go_wp2_with fail
            go_ret3
            exact ⟨0, 0, 2, rfl, .inl ⟨HX.out, rfl, rfl, rfl⟩, _, World.drewN_drewN ..⟩
          · have hd3 : decide (9007199254740992 < m) = false := decide_eq_false h3
            have HA2 : Hid (allL (k + 1) fm fp) := Lib.hid (fun i hi => by
              by_cases he : i = k
              · subst he; rw [← HMP.out.1, ← HMP.out.2]; simp [badL, h1, h2, h3]
              · exact HA.out i (by omega))
            clear h1 h2 h3
            go_wp2_with fail
            go_quiet (fail)
            go_wp2_with fail
            go_roundg (n - (k + 1))
            case measure => omega
            case rel => exact ⟨k + 1, by go_num, rfl, by omega, HA2, _, rfl⟩
    · obtain rfl : k = n := by omega
      have hdk : decide ((k : Int) < (k : Int)) = false := by simp
      by_cases h16 : 16 < k
      · have hd4 : decide ((16 : Int) < (k : Int)) = true := by simp; omega
        go_wp2_with fail
        go_ret3
        exact ⟨0, 0, 3, rfl, .inr (.inl ⟨HA.out, h16, rfl, rfl, rfl⟩), _, rfl⟩
      · have hd4 : decide ((16 : Int) < (k : Int)) = false := by simp; omega
        obtain ⟨wl, hwl⟩ : ∃ wl, wl = w.drewN j := ⟨_, rfl⟩
        go_wp2_with fail
        go_loopg [8, 9] k (fun g s8 s9 wr => ∃ i : Nat, s8 = .int .i64 (sumL fm fp i) ∧ s9 = .int .i64 i ∧ g = k - i ∧ i ≤ k ∧ ∃ j2, wr = w.drewN j2)
        case atStart => exact ⟨0, rfl, rfl, rfl, Nat.zero_le _, _, rfl⟩
        case round =>
          obtain ⟨i, rfl, rfl, hgi, hi, j2, rfl⟩ := hrel
          by_cases hil : i < k
          · have hdi : decide ((i : Int) < (k : Int)) = true := by simp; omega
            obtain ⟨adm, ham, c1, _⟩ := HM.out i hil
            obtain ⟨adp, hap, c2, _⟩ := HP.out i hil
            subst ham hap
            have hgood := HA.out i hil
            simp only [badL, Bool.or_eq_false_iff, decide_eq_false_iff_not] at hgood
            have hb := sumL_bound fm fp k i HA.out hi
            obtain ⟨m, hm⟩ : ∃ m, m = fm i := ⟨_, rfl⟩
            obtain ⟨p, hp⟩ : ∃ p, p = fp i := ⟨_, rfl⟩
            obtain ⟨S, hS⟩ : ∃ S, S = sumL fm fp i := ⟨_, rfl⟩
            rw [← hm] at c1 hgood
            rw [← hp] at c2 hgood
            rw [← hS] at hb ⊢
            have d1 : (w.drewN j2).cell? (adm.add i) = some (.int .i64 m) := c1
            have d2 : (w.drewN j2).cell? (adp.add i) = some (.int .i64 p) := c2
            have hw1 : IntKind.i64.wrap (S + m) = S + m := IntWalk.i64_in _ (by omega)
            have hw2 : IntKind.i64.wrap (S + m - p) = S + m - p := IntWalk.i64_in _ (by omega)
            have HS : Hid (S + m - p = sumL fm fp (i + 1)) := Lib.hid (by rw [hS, hm, hp]; show _ = sumL fm fp i + (fm i - fp i); omega)
            clear hm hp hS hb hgood
            go_wp2_with fail
            go_quiet (fail)
            go_wp2_with fail
            go_roundg (k - (i + 1))
            case measure => omega
            case rel => exact ⟨i + 1, by rw [HS.out], by go_num, rfl, by omega, _, rfl⟩
          · obtain rfl : i = k := by omega
            have hdi : decide ((i : Int) < (i : Int)) = false := by simp
            by_cases h0 : i = 0
            · subst h0
              go_wp2_with fail
              go_ret3
              exact ⟨0, 0, 0, rfl, .inr (.inr (.inl ⟨HA.out, rfl, rfl, rfl, rfl⟩)), _, rfl⟩
            · have hd5 : ((i : Int) == 0) = false := by simp; omega
              have hb := sumL_bound fm fp i i HA.out (Nat.le_refl _)
              have hml := meanL_some fm fp i HA.out (by omega) (by omega)
              obtain ⟨nf, hnf⟩ : ∃ nf, nf = i2r i := ⟨_, rfl⟩
              obtain ⟨S, hS⟩ : ∃ S, S = sumL fm fp i := ⟨_, rfl⟩
              obtain ⟨sf, hsf⟩ : ∃ sf, sf = i2r (sumL fm fp i).toNat := ⟨_, rfl⟩
              rw [← hnf, ← hsf] at hml
              have hc1 : floatOfInt .f64 S = sf := by rw [hsf, ← hS, ← floatOfInt_nat]; congr 1; omega
              have hc2 : floatOfInt .f64 (i : Int) = nf := by rw [hnf, floatOfInt_nat]
              have hdv := fun (T : TypeId) (W : World) => run_float_arith (P := Try.prog) W .quo T .f64 sf nf _ hml.1
              rw [← hS]
              have HS := Lib.hid hS
              have hk0 : 0 < i := by omega
              clear hb hml hnf hsf hS
              go_wp2_with fail
              go_ret3
              exact ⟨S, _, 0, rfl, .inr (.inr (.inr ⟨HA.out, hk0, by omega, HS.out, rfl, rfl⟩)), _, rfl⟩
end Go.Proofs.Ytbpnhpjcepgiiaa
