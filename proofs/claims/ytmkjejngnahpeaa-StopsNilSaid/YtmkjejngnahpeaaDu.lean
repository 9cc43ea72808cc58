/- Disk: a name is asked for; a file is found. -/
import Derived.Test.YtmkjejngnahpeaaDt
namespace Go.Proofs.Ytmkjejngnahpeaa
open Go Go.Maps Go.RowKit

section
variable {w : World} {S : Nat → Prop} {q mb : Nat} {fv : Value} {L : List Fl} {d : Dk}
theorem DiskIs.at_some (h : DiskIs w S q mb fv L d) {s : List UInt8} {f : F0} (ha : d.at s = some f) : ∃ A x B, L = A ++ x :: B ∧ x.f = f ∧ x.f.name = s := by
  have hm : f ∈ L.map (·.f) := by rw [h.files]; exact List.mem_of_find?_eq_some ha
  obtain ⟨x, hx, rfl⟩ := List.mem_map.1 hm
  obtain ⟨A, B, rfl⟩ := List.append_of_mem hx
  exact ⟨A, x, B, rfl, rfl, by have := List.find?_some ha; simpa using this⟩
theorem DiskIs.at_none (h : DiskIs w S q mb fv L d) {s : List UInt8} (ha : d.at s = none) : ∀ x ∈ L, x.f.name ≠ s := fun x hx he => by
  have hm : x.f ∈ d.files := by rw [← h.files]; exact List.mem_map_of_mem hx
  have := List.find?_eq_none.1 ha x.f hm
  simp [he] at this
theorem DiskIs.lookup_some (h : DiskIs w S q mb fv L d) {x : Fl} (hx : x ∈ L) {nm : ByteArray} (hs : nm.size ≤ maxLen) (hn : x.f.name = nm.data.toList) :
    (Instr.lookup 120 (.map (some mb)) (.string nm) true).run Try.prog w = .ok (.tuple #[.pointer (some ⟨x.blk, 0, none⟩), .bool true]) w := by
  obtain ⟨D, ho, hsz, hd⟩ := h.look
  have hz : (zeroValue 176).run Try.prog w = .ok (.pointer none) w := by kernel_rfl
  obtain ⟨v, ps, hrun, hv⟩ := ho.look_ok (t := 120) (string_keyed Try.underlying9) Try.underlying120 hz ptrElem_nil (WideMaps.keyOf_string_mk (P := Try.prog) Try.underlying9 hs)
  have hm : (x.f.name, x.blk) ∈ L.map fun x => (x.f.name, x.blk) := List.mem_map_of_mem (f := fun x => (x.f.name, x.blk)) hx
  have hg := hd.get _ hm .nil
  have hh := (hd.has nm.data.toList).2 ⟨_, hm, hn⟩
  rw [← hn] at hv hrun hh
  rw [hg] at hv
  obtain rfl := ptrElem_inv hv
  rw [hh] at hrun
  exact hrun
theorem DiskIs.lookup_none (h : DiskIs w S q mb fv L d) {nm : ByteArray} (hs : nm.size ≤ maxLen) (hn : ∀ x ∈ L, x.f.name ≠ nm.data.toList) :
    (Instr.lookup 120 (.map (some mb)) (.string nm) true).run Try.prog w = .ok (.tuple #[.pointer none, .bool false]) w := by
  obtain ⟨D, ho, hsz, hd⟩ := h.look
  have hz : (zeroValue 176).run Try.prog w = .ok (.pointer none) w := by kernel_rfl
  obtain ⟨v, ps, hrun, hv⟩ := ho.look_ok (t := 120) (string_keyed Try.underlying9) Try.underlying120 hz ptrElem_nil (WideMaps.keyOf_string_mk (P := Try.prog) Try.underlying9 hs)
  have hh : Maps.has D (.string nm.data.toList) = false := by
    cases hb : Maps.has D (.string nm.data.toList) with
    | false => rfl
    | true =>
      obtain ⟨f, hf, he⟩ := (hd.has _).1 hb
      obtain ⟨x, hx, rfl⟩ := List.mem_map.1 hf
      exact absurd he (hn x hx)
  rw [hh] at hrun
  rw [atKey_of_not_has hh] at hv
  obtain rfl := ptrElem_inv_nil hv
  exact hrun
end
theorem map_nil_ne (mb : Nat) (W : World) : (binOp .eql 120 (.map (some mb)) (.map none)).run Try.prog W = .ok (.bool false) W := by kernel_rfl
set_option maxHeartbeats 400000 in
theorem none_b {w : World} {S : Nat → Prop} {q mb : Nat} {fv : Value} {L : List Fl} {d : Dk} (h : DiskIs w S q mb fv L d) :
    Calls Try.prog 108 #[.pointer (some ⟨q, 0, none⟩)] w fun e w' => e = .returned (.bool false) ∧ w' = w := by
  have c0 : w.cell? ⟨q, 0, none⟩ = some (.map (some mb)) := cell_of h.head rfl
  have hm := map_nil_ne mb
  clear h
  go_enter Try.func108, Try.ntmps108
  go_wp2_with fail
  go_ret
  exact ⟨rfl, rfl⟩
def askE (s : List UInt8) : Int := if nameOk s = true then 0 else 2
set_option maxHeartbeats 400000 in
theorem asked_b {w : World} {S : Nat → Prop} {q mb : Nat} {fv : Value} {L : List Fl} {d : Dk} (h : DiskIs w S q mb fv L d) (nm : ByteArray) (hs : nm.size ≤ maxLen) :
    Calls Try.prog 118 #[.pointer (some ⟨q, 0, none⟩), .string nm] w fun e w' => e = .returned (.int .i64 (askE nm.data.toList)) ∧ w' = w := by
  go_enter Try.func118, Try.ntmps118
  go_wp2_with fail
  refine (none_b h).mono ?_
  rintro e w' ⟨rfl, rfl⟩
  go_wp2_with fail
  refine (named_any nm _ hs).mono ?_
  rintro e w' ⟨rfl, rfl⟩
  obtain ⟨b, hb⟩ : ∃ b, nameOk nm.data.toList = b := ⟨_, rfl⟩
  have HE : Hid (askE nm.data.toList = if b = true then 0 else 2) := Lib.hid (by rw [askE, hb])
  rw [hb]
  clear hb
  cases b
  · go_wp2_with fail
    go_ret
    exact ⟨by rw [HE.out]; rfl, rfl⟩
  · go_wp2_with fail
    go_ret
    exact ⟨by rw [HE.out]; rfl, rfl⟩
def FindIs (L : List Fl) (d : Dk) (s : List UInt8) (e : Ending) : Prop :=
  (nameOk s = false ∧ e = .returned (.tuple #[.pointer none, .int .i64 2])) ∨ (nameOk s = true ∧ d.find s = none ∧ e = .returned (.tuple #[.pointer none, .int .i64 171])) ∨
  (nameOk s = true ∧ ∃ A x B, L = A ++ x :: B ∧ x.f.name = s ∧ x.f.there = true ∧ d.find s = some x.f ∧ e = .returned (.tuple #[.pointer (some ⟨x.blk, 0, none⟩), .int .i64 0]))
set_option maxHeartbeats 400000 in
theorem find_b {w : World} {S : Nat → Prop} {q mb : Nat} {fv : Value} {L : List Fl} {d : Dk} (h : DiskIs w S q mb fv L d) (nm : ByteArray) (hs : nm.size ≤ maxLen) :
    Calls Try.prog 116 #[.pointer (some ⟨q, 0, none⟩), .string nm] w fun e w' => FindIs L d nm.data.toList e ∧ w' = w := by
  have c0 : w.cell? ⟨q, 0, none⟩ = some (.map (some mb)) := cell_of h.head rfl
  go_enter Try.func116, Try.ntmps116
  go_wp2_with fail
  refine (asked_b h nm hs).mono ?_
  rintro e w' ⟨rfl, rfl⟩
  obtain ⟨s, hss⟩ : ∃ s, nm.data.toList = s := ⟨_, rfl⟩
  cases hn : nameOk s with
  | false =>
    have hF : FindIs L d nm.data.toList (.returned (.tuple #[.pointer none, .int .i64 2])) := by rw [hss]; exact (.inl ⟨hn, rfl⟩)
    have HF := Lib.hid hF
    rw [hss, show askE s = 2 by simp [askE, hn]]
    clear h hF hn hss
    go_wp2_with fail
    go_ret2
    exact ⟨HF.out, rfl⟩
  | true =>
    rw [hss, show askE s = 0 by simp [askE, hn]]
    cases ha : d.at s with
    | none =>
      have hl := h.lookup_none hs (by rw [hss]; exact h.at_none ha)
      have hF : FindIs L d nm.data.toList (.returned (.tuple #[.pointer none, .int .i64 171])) := by rw [hss]; exact (.inr (.inl ⟨hn, by simp [Dk.find, ha], rfl⟩))
      have HF := Lib.hid hF
      clear h hF hn hss ha
      go_wp2_with fail
      go_ret2
      exact ⟨HF.out, rfl⟩
    | some f =>
      obtain ⟨A, x, B, hL, rfl, hxn⟩ := h.at_some ha
      have hl := h.lookup_some (x := x) (by rw [hL]; simp) hs (by rw [hss]; exact hxn)
      have c2 : w'.cell? ⟨x.blk, 2, none⟩ = some (.bool x.f.there) := cell_of (h.each x (by rw [hL]; simp)).cells rfl
      cases ht : x.f.there with
      | false =>
        have hF : FindIs L d nm.data.toList (.returned (.tuple #[.pointer none, .int .i64 171])) := by rw [hss]; exact (.inr (.inl ⟨hn, by simp [Dk.find, ha, ht], rfl⟩))
        have HF := Lib.hid hF
        rw [ht] at c2
        clear h hF hn hss ha hL hxn ht
        go_wp2_with fail
        go_ret2
        exact ⟨HF.out, rfl⟩
      | true =>
        have hF : FindIs L d nm.data.toList (.returned (.tuple #[.pointer (some ⟨x.blk, 0, none⟩), .int .i64 0])) := by rw [hss]; exact (.inr (.inr ⟨hn, A, x, B, hL, hxn, ht, by simp [Dk.find, ha, ht], rfl⟩))
        have HF := Lib.hid hF
        rw [ht] at c2
        clear h hF hn hss ha hL hxn ht
        go_wp2_with fail
        go_ret2
        exact ⟨HF.out, rfl⟩
end Go.Proofs.Ytmkjejngnahpeaa
