/- The texts Kt in one. -/
import Derived.Test.YtmkjejngnahpeaaY1
import Derived.Test.YtmkjejngnahpeaaB0
import Derived.Test.YtmkjejngnahpeaaY3
import Derived.Test.YtmkjejngnahpeaaY4
import Derived.Test.YtmkjejngnahpeaaD9
import Derived.Test.YtmkjejngnahpeaaC6
/- law08: what StopsNumbers asks, plainly; its callees' contracts for any picks. -/
namespace Go.Proofs.Ytmkjejngnahpeaa
open Go Go.Maps Go.RowKit

theorem natCells_int (l : List Nat) : natCells l = intCells (ints l) := by
  unfold natCells intCells ints
  rw [List.map_map]
  rfl
theorem descL_succ (n : Nat) : descL (n + 1) = n :: descL n := by
  unfold descL backL
  rw [List.ofFn_succ, List.map_cons, List.map_ofFn, List.map_ofFn]
  congr 1
  congr 1
  funext j
  simp only [Function.comp, Fin.val_succ]
  omega
theorem waysAt_mid (A B : List U0) (u : U0) : waysAt (A ++ u :: B) A.length = u.ways := by
  unfold waysAt
  rw [List.getElem?_append_right (Nat.le_refl _), Nat.sub_self]
  rfl
theorem back_dig : ∀ (n : Nat) (A B : List U0) (t : List Nat) (k : Nat), A.length = n → (backT (A ++ B) (List.replicate n 0 ++ t, k) (descL n)).1 = digT A k ++ t
  | 0, A, B, t, k, h => by
    have : A = [] := List.eq_nil_of_length_eq_zero h
    subst this
    rfl
  | n + 1, A, B, t, k, h => by
    have hne : A ≠ [] := fun e => by rw [e] at h; cases h
    obtain ⟨A', u, rfl⟩ : ∃ A' u, A = A' ++ [u] := ⟨A.dropLast, A.getLast hne, (List.dropLast_concat_getLast hne).symm⟩
    have hl : A'.length = n := by simpa using h
    rw [descL_succ]
    show (backT (A' ++ [u] ++ B) (backStep (A' ++ [u] ++ B) (List.replicate (n + 1) 0 ++ t, k) n) (descL n)).1 = _
    have e1 : A' ++ [u] ++ B = A' ++ (u :: B) := by simp
    have e2 : backStep (A' ++ (u :: B)) (List.replicate (n + 1) 0 ++ t, k) n = (List.replicate n 0 ++ (k % u.ways :: t), k / u.ways) := by
      unfold backStep
      rw [← hl, waysAt_mid, hl]
      congr 1
      rw [List.replicate_succ', List.append_assoc, List.set_append_right _ _ (by simp)]
      simp
    rw [e1, e2, back_dig n A' (u :: B) (k % u.ways :: t) (k / u.ways) hl, digT_snoc]
    simp
theorem atWays_dig (l : List U0) (k : Nat) : atWays l k = digT l k := by
  unfold atWays
  have := back_dig l.length l [] [] k rfl
  simpa using this
/-- what is picked by At -/
theorem at_in {d : Dk} {c : Nat} (hc : countT (unsT d.files) = some c) {x : Nat} (hx : x < c) : atV d (x : Int) = (ofN (unsT d.files) (digT (unsT d.files) x), 0) := by
  unfold atV
  rw [if_neg (by omega), hc]
  show (if c ≤ (x : Int).toNat then _ else _) = _
  rw [Int.toNat_natCast, if_neg (by omega), atWays_dig, ofT_n]
  rfl
section
variable {w : World} {S : Nat → Prop} {q : Nat} {d : Dk} {oa : Option Addr} {n c : Nat} {ps : List Int}
/-- the picks that are told, and the error -/
def PicksTold (d : Dk) (ps : List Int) (P : List Int) (er : Int) : Prop := (AllGe ps ∧ er = 0 ∧ P = ints (plainT (unsT d.files) ps).out) ∨ (¬ AllGe ps ∧ er = 2 ∧ P = [])
theorem sPlain_u {P : List Int} {er : Int} (hP : PicksTold d ps P er) (h : DiskAt w S q d) (hfm : d.fates.length ≤ 1000000000) (hn : ps.length = n) (hp : readAt w 1 (.slice oa n c) n (intCells ps)) (hm : n ≤ 1000000000) (hmx : ∀ x ∈ ps, x ≤ 9223372036854775807) :
    Calls Try.prog 75 #[.pointer (some ⟨q, 0, none⟩), .agg #[.slice oa n c]] w fun e w' => ∃ o1 m1 c1, e = .returned (.tuple #[.agg #[.slice o1 m1 c1], .int .i64 er]) ∧ P.length = m1 ∧ readAt w' 1 (.slice o1 m1 c1) m1 (intCells P) ∧ Below w.heap.size w w' := by
  refine (sPlain_b h hfm hn hp hm hmx).mono ?_
  rintro e w' (⟨hg, o1, m1, c1, rfl, h1, h2, h3⟩ | ⟨hg, rfl, h3⟩)
  · rcases hP with ⟨_, rfl, rfl⟩ | ⟨hb, _, _⟩
    · exact ⟨o1, m1, c1, rfl, by unfold ints; rw [List.length_map]; exact h1, by rw [← natCells_int]; exact h2, h3⟩
    · exact absurd hg hb
  · rcases hP with ⟨hb, _, _⟩ | ⟨_, rfl, rfl⟩
    · exact absurd hb hg
    · exact ⟨none, 0, 0, rfl, rfl, ⟨rfl, .inl ⟨rfl, none, 0, rfl, fun _ => rfl⟩⟩, h3⟩
theorem refCrash_u {P : List Int} {er : Int} (hP : PicksTold d ps P er) (h : RfAt w S q d) (hn : ps.length = n) (hp : readAt w 1 (.slice oa n c) n (intCells ps)) (hm : n ≤ 1000000) (hmx : ∀ x ∈ ps, x ≤ 9223372036854775807) :
    Calls Try.prog 66 #[.pointer (some ⟨q, 0, none⟩), .slice oa n c] w fun e w' => ∃ v0 o1 m1 c1 v2, e = .returned (.tuple #[v0, .slice o1 m1 c1, v2, .int .i64 er]) ∧ P.length = m1 ∧ readAt w' 1 (.slice o1 m1 c1) m1 (intCells P) ∧ Below w.heap.size w w' := by
  refine (refCrash_b h hn hp hm hmx).mono ?_
  rintro e w' (⟨hg, rfl, h3⟩ | ⟨hg, b, op, mp, cp, oo, mo, co, fv, rfl, h1, h2, hI⟩)
  · rcases hP with ⟨hb, _, _⟩ | ⟨_, rfl, rfl⟩
    · exact absurd hb hg
    · exact ⟨_, none, 0, 0, _, rfl, rfl, ⟨rfl, .inl ⟨rfl, none, 0, rfl, fun _ => rfl⟩⟩, h3⟩
  · rcases hP with ⟨_, rfl, rfl⟩ | ⟨hb, _, _⟩
    · have hpr := hI.prow.read
      rw [h1] at hpr
      rw [rcT_out] at h1 hpr
      exact ⟨_, op, mp, cp, _, rfl, by unfold ints; rw [List.length_map]; exact h1, by rw [← natCells_int]; exact hpr, hI.files.below⟩
    · exact absurd hg hb
theorem sNumber_u (h : DiskAt w S q d) (hfm : d.fates.length ≤ 1000000000) (hn : ps.length = n) (hp : readAt w 1 (.slice oa n c) n (intCells ps)) (hm : n ≤ 1000000000) (hmx : ∀ x ∈ ps, x ≤ 9223372036854775807) :
    Calls Try.prog 76 #[.pointer (some ⟨q, 0, none⟩), .agg #[.slice oa n c]] w fun e w' => ∃ k g : Int, e = .returned (.tuple #[.int .i64 k, .int .i64 g]) ∧ Hid ((AllGe ps ∧ k = (numV d ps).1 ∧ g = (numV d ps).2) ∨ (¬ AllGe ps ∧ k = 0 ∧ g = 2)) ∧ Below w.heap.size w w' := by
  by_cases hg : AllGe ps
  · refine (sNumber_b h hfm hn hp hm hmx hg).mono ?_
    rintro e w' ⟨rfl, hb⟩
    exact ⟨_, _, rfl, Lib.hid (.inl ⟨hg, rfl, rfl⟩), hb⟩
  · refine (sNumber_bad h hfm hn hp hm hg).mono ?_
    rintro e w' ⟨rfl, hb⟩
    exact ⟨0, 2, rfl, Lib.hid (.inr ⟨hg, rfl, rfl⟩), hb⟩
end
theorem itake_run {oa : Option Addr} {n c : Nat} (i : Nat) (hi : i ≤ c) (h0 : oa.map (fun x => x.add 0) = oa) (W : World) : (Instr.slice 32 (.slice oa n c) none (some (.int .i64 (i : Int))) none).run Try.prog W = .ok (.slice oa i c) W := by
  have hs : (sizeOf 3).run Try.prog W = .ok 1 W := by kernel_rfl
  have he : Try.prog.elem 32 = 3 := by kernel_rfl
  rw [run_slice_h (P := Try.prog) (w := W) 32 oa n c (by rw [he]; exact Try.underlying32) .i64 i (by omega) (by omega), he, hs]
  simp [Result.andThen, sliced, h0]
section
open Go.ChangeShapes Go.WideShapes Go.ChangeAt Go.Joins
set_option maxRecDepth 100000 in
theorem i64_in {H : Type} {enc : TypeId × Value → H} {w : World} {base b1 : Nat} {spare : Nat → Bool} {held : Bool} {rc : Reach} {v : Value} {d : DataW H} {p : List MemPlace} (hv : Value.okWide Try.prog w rc b1 2 v) (h : DataW.Trod enc Try.prog w base spare held 2 v d p) : ∃ k : Int, v = .int .i64 k ∧ -9223372036854775808 ≤ k ∧ k ≤ 9223372036854775807 := by
  obtain ⟨n, rfl⟩ := okWide_int Try.underlying2 hv
  obtain ⟨fuel, hf⟩ := h
  obtain ⟨k, hk, _, hw⟩ := DataW.trod_int Try.underlying2 hf
  have hk' : [Value.int .i64 n] = [Value.int .i64 k] := hk
  simp only [List.cons.injEq, Value.int.injEq, and_true, true_and] at hk'
  exact ⟨n, rfl, by rw [hk']; exact wf_i64 hw⟩
end
/-- while they can be counted, a number is below the count -/
theorem num_lt {d : Dk} {c : Nat} (hc : countT (unsT d.files) = some c) (ps : List Int) : ∃ k : Nat, numV d ps = ((k : Int), 0) ∧ k < c := by
  unfold numV
  rw [hc]
  refine ⟨_, rfl, ?_⟩
  have hwl : ∀ (j : Nat) (h : j < (unsT d.files).length) (h2 : j < (plainT (unsT d.files) ps).ways.length), (plainT (unsT d.files) ps).ways[j] < (unsT d.files)[j].ways := fun j h h2 => plainT_way h h2
  have hwn : (unsT d.files).length = (plainT (unsT d.files) ps).ways.length := by
    have h3 := (plainT_len (unsT d.files) ⟨[], [], ps⟩).1
    have h4 : plainT (unsT d.files) ps = (unsT d.files).foldl plainStep ⟨[], [], ps⟩ := rfl
    rw [← h4] at h3
    simpa using h3.symm
  obtain ⟨k, h1, h2⟩ := numT_lt hwl hwn hc (unsT d.files).length (Nat.le_refl _)
  rw [List.take_length, List.take_of_length_le (by omega)] at h2
  rw [List.take_length, hc] at h1
  simp only [Option.some.injEq] at h1
  omega
end Go.Proofs.Ytmkjejngnahpeaa
