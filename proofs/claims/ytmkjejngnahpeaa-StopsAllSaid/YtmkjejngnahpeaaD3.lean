/- The texts Fd in one. -/
import Derived.Test.YtmkjejngnahpeaaB1
import Derived.Test.YtmkjejngnahpeaaD2
import Derived.StillTailTactics
/- Disk: two files that are the same; lists with the same files. -/
namespace Go.Proofs.Ytmkjejngnahpeaa
open Go Go.Maps Go.RowKit
open Go.Proofs (encStr)

set_option maxHeartbeats 400000 in
theorem bytesEq_b {w : World} {va vb : Value} {a b : List UInt8} (ha : rowAt w 5 1 va a.length (byteCells a)) (hb : rowAt w 5 1 vb b.length (byteCells b)) :
    Calls Try.prog 124 #[va, vb] w fun e w' => e = .returned (.bool (decide (a = b))) ∧ w' = w := by
  have h1 := run_string_at (P := Try.prog) w 79 9 5 va a Try.underlying79 Try.underlying5 Try.underlying9 ha
  have h2 := run_string_at (P := Try.prog) w 79 9 5 vb b Try.underlying79 Try.underlying5 Try.underlying9 hb
  obtain ⟨_, _, rfl, _⟩ := ha.shape
  obtain ⟨_, _, rfl, _⟩ := hb.shape
  have he : (a == b) = decide (a = b) := by by_cases h : a = b <;> simp [h]
  have HE := Lib.hid he
  clear ha hb he
  go_enter Try.func124, Try.ntmps124
  go_wp2_with fail
  go_ret
  refine ⟨?_, rfl⟩
  rw [← HE.out]
  rfl
theorem nodup_sub_length {α : Type} [DecidableEq α] : ∀ {l l' : List α}, l.Nodup → (∀ x ∈ l, x ∈ l') → l.length ≤ l'.length
  | [], _, _, _ => Nat.zero_le _
  | a :: t, l', hn, hs => by
    have ha := hs a (by simp)
    rw [List.nodup_cons] at hn
    have h1 := nodup_sub_length (l' := l'.erase a) hn.2 (fun x hx => (List.mem_erase_of_ne (fun e => hn.1 (by rw [← e]; exact hx))).2 (hs x (by simp [hx])))
    rw [List.length_erase_of_mem ha] at h1
    have h2 := List.length_pos_of_mem ha
    simp only [List.length_cons]
    omega
theorem sorted_sub_eq : ∀ {l l' : List F0}, (l.map (·.name)).Pairwise (· < ·) → (l'.map (·.name)).Pairwise (· < ·) → (∀ x ∈ l, x ∈ l') → l.length = l'.length → l = l'
  | [], [], _, _, _, _ => rfl
  | [], _ :: _, _, _, _, h => by simp at h
  | _ :: _, [], _, _, _, h => by simp at h
  | f :: r, g :: s, h1, h2, hs, hl => by
    have hnd : (f :: r).Nodup := by
      have : ((f :: r).map (·.name)).Nodup := h1.imp (fun {a b} hab he => by rw [he] at hab; exact List.lt_irrefl _ hab)
      exact (List.pairwise_map.1 this).imp (fun {a b} hab he => hab (by rw [he]))
    rw [List.map_cons, List.pairwise_cons] at h1 h2
    have hfg : f = g := by
      refine Classical.byContradiction fun hne => ?_
      have hfs : f ∈ s := by
        rcases List.mem_cons.1 (hs f (by simp)) with h | h
        · exact absurd h hne
        · exact h
      have hgf : g.name < f.name := h2.1 _ (List.mem_map_of_mem hfs)
      have hall : ∀ x ∈ f :: r, x ∈ s := fun x hx => by
        rcases List.mem_cons.1 (hs x hx) with h | h
        · exfalso
          subst h
          rcases List.mem_cons.1 hx with h | h
          · exact hne h.symm
          · exact List.lt_irrefl _ (List.lt_trans hgf (h1.1 _ (List.mem_map_of_mem h)))
        · exact h
      have := nodup_sub_length hnd hall
      simp only [List.length_cons] at this hl
      omega
    subst hfg
    rw [List.nodup_cons] at hnd
    rw [sorted_sub_eq h1.2 h2.2 (fun x hx => by
      rcases List.mem_cons.1 (hs x (by simp [hx])) with h | h
      · exact absurd (h ▸ hx) hnd.1
      · exact h) (by simpa using hl)]
/-- all but the name is alike -/
def sameF (f g : F0) : Bool := decide (f.lasts = g.lasts) && decide (f.there = g.there) && decide (f.named = g.named) && decide (f.bytes = g.bytes)
theorem sameF_eq {f g : F0} (h : sameF f g = true) (hn : f.name = g.name) : f = g := by
  obtain ⟨a, b, c, d, e⟩ := f
  obtain ⟨a', b', c', d', e'⟩ := g
  simp [sameF] at h
  simp only at hn
  simp [hn, h]
theorem sameF_self (f : F0) : sameF f f = true := by simp [sameF]
set_option maxRecDepth 100000 in
set_option maxHeartbeats 1000000 in
theorem same1_b {w : World} {x y : Fl} (hx : FlAt w x) (hy : FlAt w y) : Calls Try.prog 123 #[.pointer (some ⟨x.blk, 0, none⟩), .pointer (some ⟨y.blk, 0, none⟩)] w fun e w' => e = .returned (.bool (sameF x.f y.f)) ∧ w.grownBy w' none := by
  obtain ⟨oa, c, hbx, _⟩ := hx.row.shape
  obtain ⟨ob, cb, hby, _⟩ := hy.row.shape
  have hcx := hx.cells
  have hcy := hy.cells
  have HR : Hid (rowAt w 5 1 (.slice oa x.f.bytes.length c) x.f.bytes.length (byteCells x.f.bytes) ∧ rowAt w 5 1 (.slice ob y.f.bytes.length cb) y.f.bytes.length (byteCells y.f.bytes)) := Lib.hid ⟨by have := hx.row; rwa [hbx] at this, by have := hy.row; rwa [hby] at this⟩
  rw [hbx] at hcx
  rw [hby] at hcy
  obtain ⟨n, hn⟩ : ∃ n, x.f.bytes.length = n := ⟨_, rfl⟩
  obtain ⟨m, hm⟩ : ∃ m, y.f.bytes.length = m := ⟨_, rfl⟩
  obtain ⟨lx, hlx⟩ : ∃ lx, x.f.lasts = lx := ⟨_, rfl⟩
  obtain ⟨ly, hly⟩ : ∃ ly, y.f.lasts = ly := ⟨_, rfl⟩
  obtain ⟨tx, htx⟩ : ∃ tx, x.f.there = tx := ⟨_, rfl⟩
  obtain ⟨ty, hty⟩ : ∃ ty, y.f.there = ty := ⟨_, rfl⟩
  obtain ⟨nx, hnx⟩ : ∃ nx, x.f.named = nx := ⟨_, rfl⟩
  obtain ⟨ny, hny⟩ : ∃ ny, y.f.named = ny := ⟨_, rfl⟩
  rw [hn, hlx, htx, hnx] at hcx
  rw [hm, hly, hty, hny] at hcy
  have HV : Hid (sameF x.f y.f = (decide (lx = ly) && decide (tx = ty) && decide (nx = ny) && decide (x.f.bytes = y.f.bytes))) := Lib.hid (by unfold sameF; rw [hlx, hly, htx, hty, hnx, hny])
  have HE : Hid (∀ W : World, W.grownBy W.drew none) := Lib.hid (fun W => ⟨rfl, rfl, rfl, Nat.le_refl _, fun _ _ _ => rfl⟩)
  have x0 : w.cell? ⟨x.blk, 0, none⟩ = some (.slice oa n c) := cell_of hcx rfl
  have x1 : w.cell? ⟨x.blk, 1, none⟩ = some (.int .i64 lx) := cell_of hcx rfl
  have x2 : w.cell? ⟨x.blk, 2, none⟩ = some (.bool tx) := cell_of hcx rfl
  have x3 : w.cell? ⟨x.blk, 3, none⟩ = some (.bool nx) := cell_of hcx rfl
  have y0 : w.cell? ⟨y.blk, 0, none⟩ = some (.slice ob m cb) := cell_of hcy rfl
  have y1 : w.cell? ⟨y.blk, 1, none⟩ = some (.int .i64 ly) := cell_of hcy rfl
  have y2 : w.cell? ⟨y.blk, 2, none⟩ = some (.bool ty) := cell_of hcy rfl
  have y3 : w.cell? ⟨y.blk, 3, none⟩ = some (.bool ny) := cell_of hcy rfl
  have HC : Hid (∀ W : World, (W = w ∨ W = w.drew) → Calls Try.prog 124 #[.slice oa n c, .slice ob m cb] W fun e w' => e = .returned (.bool (decide (x.f.bytes = y.f.bytes))) ∧ w' = W) := Lib.hid (fun W hW => by
    have hk : ∀ k : Nat, W.heap[k]? = w.heap[k]? := by rcases hW with rfl | rfl <;> intro k <;> rfl
    have := bytesEq_b (HR.out.1.kept (fun k _ => hk k)) (HR.out.2.kept (fun k _ => hk k))
    rwa [hn, hm] at this)
  obtain ⟨eb, heb⟩ : ∃ eb, decide (x.f.bytes = y.f.bytes) = eb := ⟨_, rfl⟩
  rw [heb] at HC HV
  clear hx hy hcx hcy hbx hby hn hm hlx hly htx hty hnx hny heb HR
  by_cases hl : lx = ly
  · subst hl
    have hb1 : (((lx : Nat) : Int) == (lx : Int)) = true := by simp
    obtain ⟨b2, hb2⟩ : ∃ b, (tx == ty) = b := ⟨_, rfl⟩
    obtain ⟨b3, hb3⟩ : ∃ b, (nx == ny) = b := ⟨_, rfl⟩
    have hv := HV.out
    rw [decide_eq_true rfl, Bool.true_and, show decide (tx = ty) = b2 by rw [← hb2]; cases tx <;> cases ty <;> rfl, show decide (nx = ny) = b3 by rw [← hb3]; cases nx <;> cases ny <;> rfl] at hv
    have HV2 := Lib.hid hv
    clear HV hv
    cases b2
    · go_enter Try.func123, Try.ntmps123
      go_upto_region 1 with fail
      go_region
      go_wp2_with fail
      go_ret
      exact ⟨by rw [HV2.out]; rfl, HE.out _⟩
    · cases b3
      · go_enter Try.func123, Try.ntmps123
        go_upto_region 1 with fail
        go_region
        go_wp2_with fail
        go_ret
        exact ⟨by rw [HV2.out]; rfl, HE.out _⟩
      · go_enter Try.func123, Try.ntmps123
        go_upto_region 1 with fail
        go_still_tail 40, (by kernel_rfl)
        change wpList _ _ _ _ _ w.drew
        go_wp2_with fail
        refine (HC.out _ (.inr rfl)).mono ?_
        rintro e w5 ⟨rfl, rfl⟩
        go_wp2_with fail
        go_ret
        exact ⟨by rw [HV2.out]; rfl, HE.out _⟩
  · have hb1 : (((lx : Nat) : Int) == (ly : Int)) = false := by simp; omega
    have hv := HV.out
    rw [decide_eq_false hl] at hv
    have HV2 := Lib.hid hv
    clear hl HV hv
    go_enter Try.func123, Try.ntmps123
    go_upto_region 1 with fail
    go_region
    go_wp2_with fail
    go_ret
    exact ⟨by rw [HV2.out]; rfl, HE.out _⟩
end Go.Proofs.Ytmkjejngnahpeaa
