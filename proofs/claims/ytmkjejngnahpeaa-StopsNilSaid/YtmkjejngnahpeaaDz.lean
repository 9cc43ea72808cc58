/- Disk: a copy of bytes; Read. -/
import Derived.Test.YtmkjejngnahpeaaDy
import Derived.Deep.RegionLaw
namespace Go.Proofs.Ytmkjejngnahpeaa
open Go Go.Maps Go.RowKit

theorem emptyRowU (w : World) (T : TypeId) (size : Nat) : hasRow (w.alloc (.cells #[] T)) w.heap.size T size (.slice (some ⟨w.heap.size, 0, none⟩) 0 0) 0 [] :=
  ⟨by simp, .inr ⟨_, 0, #[], (0, 0), rfl, Nat.le_refl _, heap_alloc_new _ _, Nat.le_refl _, Nat.zero_le _, by simp, fun j hj => by simp at hj, by simp⟩⟩
/-- v holds the bytes l, in a block that is new -/
def NewBytes (w w' : World) (v : Value) (l : List UInt8) : Prop := bytesAt w' v l ∧ (∀ k, v.ownBlock = some k → w.heap.size ≤ k) ∧ Below w.heap.size w w'
set_option maxRecDepth 100000 in
set_option maxHeartbeats 400000 in
theorem clone_b {w : World} {oa : Option Addr} {n c : Nat} {l : List UInt8} (hn : l.length = n) (h : rowAt w 5 1 (.slice oa n c) n (byteCells l)) (hm : n ≤ 1000000000) :
    Calls Try.prog 113 #[.slice oa n c] w fun e w' => ∃ v, e = .returned v ∧ NewBytes w w' v l := by
  cases oa with
  | none =>
    rcases h.2 with ⟨hv, h0⟩ | ⟨g, off, c, cur, fr, hv, _⟩
    · simp only [Value.slice.injEq] at hv
      obtain ⟨-, -, rfl⟩ := hv
      subst h0
      have hl : l = [] := List.eq_nil_of_length_eq_zero hn
      subst hl
      have hnil : ∀ W : World, (binOp .eql 79 (.slice none 0 0) (.slice none 0 0)).run Try.prog W = .ok (.bool true) W := fun W => by kernel_rfl
      have H := Lib.hid h
      clear h
      go_enter Try.func113, Try.ntmps113
      go_wp2_with fail
      go_ret
      exact ⟨_, rfl, H.out, fun k hk => by simp [Value.ownBlock] at hk, Below.refl _ _⟩
    · simp at hv
  | some ad =>
    have hnil : ∀ W : World, (binOp .eql 79 (.slice (some ad) n c) (.slice none 0 0)).run Try.prog W = .ok (.bool false) W := fun W => by kernel_rfl
    have HS : Hid (Src Try.prog (w.alloc (.cells #[] 5)) 1 79 (.slice (some ad) n c) n (byteCells l)) := Lib.hid (Src.of_row Try.underlying79 (h.kept (fun k hk => Below.heap_alloc _ _ k (h.lt k hk))) (byteCells_one _))
    clear h
    go_enter Try.func113, Try.ntmps113
    go_wp2_with (at_builtin; refine wpList_append_at _ rfl (.tmp 5) (.tmp 6) 79 79 rfl 5 (.int .u8 0) 1 1 Try.underlying79 info_u8 rfl _ 0 _ rfl (rowAt.of_row (emptyRowU w _ _)) _ n _ rfl HS.out (by unfold maxLen; omega) (by omega) ?_; intro v' w3 hr hg hown _; have HR := Lib.hid hr; have HG : Hid ((w.alloc (.cells #[] 5)).grownBy w3 (some w.heap.size)) := Lib.hid hg; have HOWN : Hid (v'.ownBlock = some w.heap.size ∨ v'.ownBlock = some (w.alloc (.cells #[] 5)).heap.size) := Lib.hid hown; clear hr hg hown)
    go_ret
    refine ⟨v', rfl, ?_, fun k hk => ?_, ?_⟩
    · have := HR.out
      rw [Nat.zero_add, List.nil_append, ← hn] at this
      exact this
    · have h1 := HOWN.out
      rw [hk] at h1
      simp at h1
      omega
    · exact ((Below.refl _ _).alloc (Nat.le_refl _) _).grown HG.out (by simp) (fun k hk => by simp at hk; omega)
theorem run_part (oa : Option Addr) (N c α E : Nat) (h1 : α ≤ E) (h2 : E ≤ c) (W : World) : (Instr.slice 79 (.slice oa N c) (some (.int .i64 (α : Int))) (some (.int .i64 (E : Int))) none).run Try.prog W = .ok (.slice (if c = α then oa else oa.map (·.add (α * 1))) (E - α) (c - α)) W := by
  have hs : (sizeOf 5).run Try.prog W = .ok 1 W := by kernel_rfl
  have he : Try.prog.elem 79 = 5 := by kernel_rfl
  rw [run_slice_lh (P := Try.prog) (w := W) 79 oa N c (by rw [he]; exact Try.underlying79) .i64 .i64 α E (by omega) (by omega) (by omega), he, hs]
  simp [Result.andThen, sliced]
theorem wrap_nat (x : Int) (n : Nat) (h : x = (n : Int)) (hn : n ≤ 1000000000) : IntKind.i64.wrap x = (n : Int) := by
  subst h
  simp [IntKind.wrap, IntKind.signed, IntKind.bits]
  omega
/-- what is read of a disk -/
def Dk.read (d : Dk) (s : List UInt8) (a n : Int) : List UInt8 × Int :=
  if nameOk s = false then ([], 2)
  else match d.find s with
    | none => ([], 171)
    | some f => if a < 0 ∨ (f.bytes.length : Int) < a ∨ n < 0 then ([], 4) else ((f.bytes.drop a.toNat).take (min n.toNat (f.bytes.length - a.toNat)), 0)
def ReadIs (w : World) (r : List UInt8 × Int) (e : Ending) (w' : World) : Prop := ∃ v, e = .returned (.tuple #[v, .int .i64 r.2]) ∧ NewBytes w w' v r.1
theorem ReadIs.none (w : World) (n : Int) : ReadIs w ([], n) (.returned (.tuple #[.slice none 0 0, .int .i64 n])) w :=
  ⟨_, rfl, ⟨by simp [byteCells], .inl ⟨rfl, rfl⟩⟩, fun k hk => by simp [Value.ownBlock] at hk, Below.refl _ _⟩
set_option maxRecDepth 100000 in
set_option maxHeartbeats 1000000 in
theorem read_b {w : World} {S : Nat → Prop} {q : Nat} {d : Dk} (h : DiskAt w S q d) (nm : ByteArray) (hs : nm.size ≤ maxLen) (a n : Int) (ha : a ≤ 9223372036854775807) (hn63 : n ≤ 9223372036854775807) :
    Calls Try.prog 42 #[.pointer (some ⟨q, 0, none⟩), .string nm, .int .i64 a, .int .i64 n] w fun e w' => ReadIs w (d.read nm.data.toList a n) e w' := by
  obtain ⟨mb, fv, L, h⟩ := h
  go_enter Try.func42, Try.ntmps42
  go_wp2_with fail
  refine (find_b h nm hs).mono ?_
  rintro e w' ⟨hF, rfl⟩
  rcases hF with ⟨hn, rfl⟩ | ⟨hn, hf, rfl⟩ | ⟨hn, A, x, B, rfl, hxn, hxt, hf, rfl⟩
  · have HO : Hid (ReadIs w' (d.read nm.data.toList a n) (.returned (.tuple #[.slice none 0 0, .int .i64 2])) w') := Lib.hid (by
      rw [show d.read nm.data.toList a n = ([], 2) by simp [Dk.read, hn]]
      exact ReadIs.none w' 2)
    clear h hn
    go_wp2_with fail
    go_ret2
    exact HO.out
  · have HO : Hid (ReadIs w' (d.read nm.data.toList a n) (.returned (.tuple #[.slice none 0 0, .int .i64 171])) w') := Lib.hid (by
      rw [show d.read nm.data.toList a n = ([], 171) by simp [Dk.read, hn, hf]]
      exact ReadIs.none w' 171)
    clear h hn hf
    go_wp2_with fail
    go_ret2
    exact HO.out
  · have hx := h.each x (by simp)
    obtain ⟨oa, c, hbv, hnc⟩ := hx.row.shape
    obtain ⟨N, hnn⟩ : ∃ N, x.f.bytes.length = N := ⟨_, rfl⟩
    have hsz : N ≤ 16777216 := by rw [← hnn]; exact hx.size
    have hxc := hx.cells
    have hxr := hx.row
    rw [hbv, hnn] at hxc hxr
    rw [hnn] at hnc
    have k0 : w'.cell? ⟨x.blk, 0, none⟩ = some (.slice oa N c) := cell_of hxc rfl
    by_cases hbad : a < 0 ∨ (N : Int) < a ∨ n < 0
    · have HO : Hid (ReadIs w' (d.read nm.data.toList a n) (.returned (.tuple #[.slice none 0 0, .int .i64 4])) w') := Lib.hid (by
        rw [show d.read nm.data.toList a n = ([], 4) by simp [Dk.read, hn, hf, hnn, hbad]]
        exact ReadIs.none w' 4)
      clear h hn hf hx hxc hxr hbv
      by_cases e1 : a < 0
      · go_wp2_with fail
        go_ret2
        exact HO.out
      · by_cases e2 : (N : Int) < a
        · go_wp2_with fail
          go_ret2
          exact HO.out
        · have e3 : n < 0 := by omega
          go_wp2_with fail
          go_ret2
          exact HO.out
    · obtain ⟨α, rfl⟩ : ∃ α : Nat, a = (α : Int) := ⟨a.toNat, by omega⟩
      obtain ⟨ν, rfl⟩ : ∃ ν : Nat, n = (ν : Int) := ⟨n.toNat, by omega⟩
      have hαN : α ≤ N := by omega
      have HRD : Hid (d.read nm.data.toList α ν = ((x.f.bytes.drop α).take (min ν (N - α)), 0)) := Lib.hid (by simp [Dk.read, hn, hf, hnn]; omega)
      have d1 : decide ((α : Int) < 0) = false := by simp
      have d2 : decide ((N : Int) < (α : Int)) = false := by simp; omega
      have d3 : decide ((ν : Int) < 0) = false := by simp
      have HXR := Lib.hid hxr
      have HNN := Lib.hid hnn
      clear h hn hf hx hxc hxr hbv hnn hbad
      go_upto_region 6 with fail
      obtain ⟨M, hM⟩ : ∃ M, M = N - α := ⟨_, rfl⟩
      have hw1 : IntKind.i64.wrap ((N : Int) - (α : Int)) = (M : Int) := wrap_nat _ _ (by omega) (by omega)
      obtain ⟨K, hK⟩ : ∃ K, K = min ν M := ⟨_, rfl⟩
      obtain ⟨E, hE⟩ : ∃ E, E = α + K := ⟨_, rfl⟩
      have hw2 : IntKind.i64.wrap ((α : Int) + (K : Int)) = (E : Int) := wrap_nat _ _ (by omega) (by omega)
      obtain ⟨oa1, hoa1⟩ : ∃ o : Option Addr, o = if c = α then oa else oa.map (·.add (α * 1)) := ⟨_, rfl⟩
      obtain ⟨c1, hc1⟩ : ∃ c1, c1 = c - α := ⟨_, rfl⟩
      have hsl : ∀ W : World, (Instr.slice 79 (.slice oa N c) (some (.int .i64 (α : Int))) (some (.int .i64 (E : Int))) none).run Try.prog W = .ok (.slice oa1 K c1) W := fun W => by
        rw [run_part oa N c α E (by omega) (by omega) W, hoa1, hc1, show E - α = K by omega]
      have hrow : rowAt w' 5 1 (.slice oa1 K c1) K (byteCells ((x.f.bytes.drop α).take K)) := by
        have h1 := HXR.out.sub α E c (by omega) (by omega) (by omega) (Nat.le_refl _)
        rw [show E - α = K by omega, ← hoa1, ← hc1] at h1
        have e : ((byteCells x.f.bytes).drop (α * 1)).take (K * 1) = byteCells ((x.f.bytes.drop α).take K) := by simp [byteCells, List.map_drop, List.map_take]
        rw [e] at h1
        exact h1
      have hKl : ((x.f.bytes.drop α).take K).length = K := by rw [List.length_take, List.length_drop, HNN.out]; omega
      have HROW := Lib.hid hrow
      have HKL := Lib.hid hKl
      have HRK : Hid (d.read nm.data.toList α ν = ((x.f.bytes.drop α).take K, 0)) := Lib.hid (by rw [HRD.out, ← hM, hK])
      have hKb : K ≤ 1000000000 := by omega
      have hcl : Calls Try.prog 113 #[.slice oa1 K c1] w'.drew fun e w'' => ∃ v, e = .returned v ∧ NewBytes w' w'' v ((x.f.bytes.drop α).take K) := by
        refine (clone_b (w := w'.drew) hKl hrow hKb).mono ?_
        rintro e w'' ⟨v, rfl, h1, h2, h3⟩
        exact ⟨v, rfl, h1, h2, ⟨h3.os, h3.tape, h3.output, h3.size, h3.block⟩⟩
      have HCL := Lib.hid hcl
      clear hoa1 hc1 hrow hKl hE hcl
      by_cases hk : M < ν
      · have hk1 : (K : Int) = (M : Int) := by omega
        rw [hk1] at hw2
        clear hM hK hk1
        go_region_law (go_simp; go_at_call 113; refine HCL.out.mono ?_; rintro e w2 ⟨v, rfl, hnb⟩; have HNB := Lib.hid hnb; clear hnb)
        all_goals go_wp2_with fail
        all_goals go_ret2
        all_goals exact ⟨v, by rw [HRK.out]; rfl, by rw [HRK.out]; exact HNB.out⟩
      · have hk1 : (K : Int) = (ν : Int) := by omega
        rw [hk1] at hw2
        clear hM hK hk1
        go_region_law (go_simp; go_at_call 113; refine HCL.out.mono ?_; rintro e w2 ⟨v, rfl, hnb⟩; have HNB := Lib.hid hnb; clear hnb)
        all_goals go_wp2_with fail
        all_goals go_ret2
        all_goals exact ⟨v, by rw [HRK.out]; rfl, by rw [HRK.out]; exact HNB.out⟩
end Go.Proofs.Ytmkjejngnahpeaa
