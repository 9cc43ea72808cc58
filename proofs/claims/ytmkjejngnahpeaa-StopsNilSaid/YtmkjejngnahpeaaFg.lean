/- Disk: Names. -/
import Derived.Test.YtmkjejngnahpeaaFf
namespace Go.Proofs.Ytmkjejngnahpeaa
open Go Go.Maps Go.RowKit
open Go.Proofs (encStr)

def encN (L : List Fl) : List Value := L.map fun x => encStr x.f.name
def AllThere (L : List Fl) : Prop := ∀ x ∈ L, x.f.there = true
theorem AllThere.snoc {L : List Fl} {k : Nat} (h : k < L.length) (ha : AllThere (L.take k)) (hc : L[k].f.there = true) : AllThere (L.take (k + 1)) := by
  intro x hx
  rw [List.take_succ_eq_append_getElem h, List.mem_append, List.mem_singleton] at hx
  rcases hx with hx | rfl
  · exact ha x hx
  · exact hc
set_option maxRecDepth 100000 in
set_option maxHeartbeats 400000 in
theorem indexGone_b {w : World} {S : Nat → Prop} {q mb : Nat} {fv : Value} {L : List Fl} {d : Dk} (h : DiskIs w S q mb fv L d) {b : Nat} (hb : w.cell? ⟨b, 0, none⟩ = some (.pointer (some ⟨q, 0, none⟩)))
    {oa : Option Addr} {n c : Nat} (hn : L.length = n) (hr : rowAt w 9 1 (.slice oa n c) n (encN L)) (hm : n ≤ 1000000000) :
    Calls Try.prog 164 #[.slice oa n c, .func (.func 126) #[] #[.pointer (some ⟨b, 0, none⟩)]] w fun e w' => ∃ i : Int, e = .returned (.int .i64 i) ∧ ((i = -1 ∧ AllThere L) ∨ ∃ k : Nat, ∃ h : k < L.length, i = (k : Int) ∧ AllThere (L.take k) ∧ L[k].f.there = false) ∧ w' = w := by
  have H := Lib.hid h
  have HR := Lib.hid hr
  have HB := Lib.hid hb
  clear h hr hb
  go_enter Try.func164, Try.ntmps164
  go_wp2_with fail
  go_loop [8] (fun i => ∃ k : Nat, k ≤ n ∧ i = .int .i64 k ∧ AllThere (L.take k)) (fun i => n - (intOf i).toNat)
  case atStart => exact ⟨0, Nat.zero_le _, rfl, fun x hx => by simp at hx⟩
  case round =>
    obtain ⟨k, hk, rfl, hge⟩ := hrel
    by_cases hlt : k < n
    · obtain ⟨g, off, rfl⟩ := HR.out.addr (by omega)
      have hkL : k < L.length := by omega
      obtain ⟨x, hx⟩ : ∃ x, L[k] = x := ⟨_, rfl⟩
      have hxm : x ∈ L := by rw [← hx]; exact List.getElem_mem _
      have hcx : w.cell? ⟨g, off + k, none⟩ = some (encStr x.f.name) := HR.out.cell1 (by simp [encN, hkL, hx])
      have HXM := Lib.hid hxm
      obtain ⟨th, hth⟩ : ∃ th, x.f.there = th := ⟨_, rfl⟩
      have HC : Hid (Calls Try.prog 126 #[encStr x.f.name, .pointer (some ⟨b, 0, none⟩)] w fun e w' => e = .returned (.bool (!th)) ∧ w' = w) := Lib.hid (by rw [← hth]; exact name1_b H.out hxm HB.out)
      obtain ⟨sv, hsv⟩ : ∃ sv : ByteArray, encStr x.f.name = .string sv := ⟨_, rfl⟩
      rw [hsv] at hcx HC
      cases th
      · have HX : Hid (∃ h : k < L.length, AllThere (L.take k) ∧ L[k].f.there = false) := Lib.hid ⟨hkL, hge, by rw [hx]; exact hth⟩
        clear hge hx hxm hth hsv
        go_wp2_with (go_at_call 126; refine HC.out.mono ?_; rintro e w' ⟨rfl, rfl⟩)
        go_ret
        exact ⟨_, rfl, .inr ⟨k, HX.out.1, rfl, HX.out.2⟩, rfl⟩
      · have HX : Hid (AllThere (L.take (k + 1))) := Lib.hid (AllThere.snoc hkL hge (by rw [hx]; exact hth))
        clear hge hx hxm hth hsv
        go_wp2_with (go_at_call 126; refine HC.out.mono ?_; rintro e w' ⟨rfl, rfl⟩)
        exact ⟨⟨k + 1, by omega, by simp, HX.out⟩, by simp [intOf]; omega⟩
    · obtain rfl : k = n := by omega
      have HA : Hid (AllThere L) := Lib.hid (by rwa [List.take_of_length_le (by omega)] at hge)
      clear hge
      go_wp2_with fail
      go_ret
      exact ⟨_, rfl, .inl ⟨rfl, HA.out⟩, rfl⟩
/-- the row while the names are parted: the first k are those kept of the first m -/
structure Parted (L : List Fl) (m k : Nat) (xs : List Value) : Prop where
  len : xs.length = L.length
  kept : xs.take k = encN ((L.take m).filter (·.f.there))
  k : k = ((L.take m).filter (·.f.there)).length
  rest : ∀ j, m ≤ j → xs[j]? = (encN L)[j]?
theorem Parted.start {L : List Fl} {k : Nat} (hk : k < L.length) (ha : AllThere (L.take k)) (hc : L[k].f.there = false) : Parted L (k + 1) k (encN L) := by
  have e : (L.take (k + 1)).filter (·.f.there) = L.take k := by
    rw [List.take_succ_eq_append_getElem hk, List.filter_append, List.filter_eq_self.2 (fun x hx => ha x hx)]
    simp [hc]
  exact ⟨by simp [encN], by rw [e]; simp [encN, List.map_take], by rw [e, List.length_take]; omega, fun _ _ => rfl⟩
theorem Parted.skip {L : List Fl} {m k : Nat} {xs : List Value} (h : Parted L m k xs) (hm : m < L.length) (hc : L[m].f.there = false) : Parted L (m + 1) k xs := by
  have e : (L.take (m + 1)).filter (·.f.there) = (L.take m).filter (·.f.there) := by
    rw [List.take_succ_eq_append_getElem hm, List.filter_append]
    simp [hc]
  exact ⟨h.len, by rw [e]; exact h.kept, by rw [e]; exact h.k, fun j hj => h.rest j (by omega)⟩
theorem Parted.lt {L : List Fl} {m k : Nat} {xs : List Value} (h : Parted L m k xs) : k ≤ m := by
  have h1 := h.k
  have h2 := List.length_filter_le (fun x : Fl => x.f.there) (L.take m)
  rw [List.length_take] at h2
  omega
theorem Parted.keep {L : List Fl} {m k : Nat} {xs : List Value} (h : Parted L m k xs) (hm : m < L.length) (hc : L[m].f.there = true) : Parted L (m + 1) (k + 1) (xs.set k (encStr L[m].f.name)) := by
  have e : (L.take (m + 1)).filter (·.f.there) = (L.take m).filter (·.f.there) ++ [L[m]] := by
    rw [List.take_succ_eq_append_getElem hm, List.filter_append]
    simp [hc]
  have hkm := h.lt
  have hkx : k < xs.length := by rw [h.len]; omega
  refine ⟨by simp [h.len], ?_, by rw [e, List.length_append, ← h.k]; rfl, fun j hj => ?_⟩
  · rw [e, List.take_succ_eq_append_getElem (by simpa using hkx)]
    simp only [List.getElem_set_self, List.take_set_of_le (Nat.le_refl k)]
    rw [h.kept]
    simp [encN]
  · rw [List.getElem?_set_ne (by omega)]
    exact h.rest j (by omega)
theorem take_run {oa : Option Addr} {n c : Nat} (i : Nat) (hi : i ≤ c) (h0 : oa.map (fun x => x.add 0) = oa) (W : World) : (Instr.slice 94 (.slice oa n c) none (some (.int .i64 (i : Int))) none).run Try.prog W = .ok (.slice oa i c) W := by
  have hs : (sizeOf 9).run Try.prog W = .ok 1 W := by kernel_rfl
  have he : Try.prog.elem 94 = 9 := by kernel_rfl
  rw [run_slice_h (P := Try.prog) (w := W) 94 oa n c (by rw [he]; exact Try.underlying94) .i64 i (by omega) (by omega), he, hs]
  simp [Result.andThen, sliced, h0]
theorem drop_run (g off n c i : Nat) (hi : i ≤ n) (W : World) : (Instr.slice 94 (.slice (some ⟨g, off, none⟩) n c) (some (.int .i64 (i : Int))) none none).run Try.prog W = .ok (.slice (if c = i then some ⟨g, off, none⟩ else some ⟨g, off + i, none⟩) (n - i) (c - i)) W := by
  have hs : (sizeOf 9).run Try.prog W = .ok 1 W := by kernel_rfl
  have he : Try.prog.elem 94 = 9 := by kernel_rfl
  rw [run_slice_l (P := Try.prog) (w := W) 94 (some ⟨g, off, none⟩) n c (by rw [he]; exact Try.underlying94) .i64 i (by omega) (by omega), he, hs]
  simp [Result.andThen, sliced, Go.WideShapes.add_plain]
end Go.Proofs.Ytmkjejngnahpeaa
