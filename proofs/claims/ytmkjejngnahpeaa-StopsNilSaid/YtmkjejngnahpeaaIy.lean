/- The texts Id, Ie, If, Ig, Ih, Ii, Ij in one. -/
import Derived.Test.YtmkjejngnahpeaaIc
import Derived.Test.YtmkjejngnahpeaaEf
import Derived.BigRegion
import Derived.Test.YtmkjejngnahpeaaFc
import Derived.Test.YtmkjejngnahpeaaEq
import Derived.Test.YtmkjejngnahpeaaEt
import Derived.Test.YtmkjejngnahpeaaFq
/- The document's disk: a file is written; Sync and Append of it. -/
namespace Go.Proofs.Ytmkjejngnahpeaa
open Go Go.Maps Go.RowKit
open Go.Proofs (encStr)

theorem rfCells_set : ∀ (l : List F0) (i k : Nat) (v : Value) (f' : F0) (hi : i < l.length), k < 5 → rfFile f' = (rfFile l[i]).set k v → rfCells (l.set i f') = (rfCells l).set (i * 5 + k) v
  | x :: r, 0, k, v, f', _, hk, h => by
    show rfFile f' ++ rfCells r = (rfFile x ++ rfCells r).set _ v
    have h5 : (rfFile x).length = 5 := rfl
    rw [List.set_append_left _ _ (by rw [h5]; omega), h, Nat.zero_mul, Nat.zero_add]
    rfl
  | x :: r, i + 1, k, v, f', hi, hk, h => by
    show rfFile x ++ rfCells (r.set i f') = (rfFile x ++ rfCells r).set _ v
    have h5 : (rfFile x).length = 5 := rfl
    rw [List.set_append_right _ _ (by rw [h5]; omega), h5, rfCells_set r i k v f' (by simpa using hi) hk h]
    congr 2
    omega
theorem turn_set {l : List F0} {s : List UInt8} (hs : (l.map (·.name)).Pairwise (· < ·)) {i : Nat} (hi : i < l.length) (hn : l[i].name = s) (t : F0 → F0) : (l.map fun f => if f.name = s then t f else f) = l.set i (t l[i]) := by
  refine List.ext_getElem (by simp) fun j h1 h2 => ?_
  rw [List.getElem_map, List.getElem_set]
  have hj : j < l.length := by simpa using h1
  by_cases hij : i = j
  · subst hij
    rw [if_pos hn, if_pos rfl]
  · rw [if_neg hij, if_neg]
    intro he
    have hp := List.pairwise_iff_getElem.1 hs
    rcases Nat.lt_or_gt_of_ne hij with h3 | h3
    · have := hp i j (by simpa using hi) (by simpa using hj) h3
      rw [List.getElem_map, List.getElem_map, hn, he] at this
      exact List.lt_irrefl _ this
    · have := hp j i (by simpa using hj) (by simpa using hi) h3
      rw [List.getElem_map, List.getElem_map, hn, he] at this
      exact List.lt_irrefl _ this
section
variable {w : World} {S : Nat → Prop} {p : Nat} {rv fv : Value} {d : Dk}
/-- one cell of one file is written -/
theorem RfIs.file_set (h : RfIs w S p rv fv d) {i k : Nat} (hi : i < d.files.length) {g off N c : Nat} (hrv : rv = .slice (some ⟨g, off, none⟩) N c) (hk : k < 5) {v : Value} {f' : F0} (hf : rfFile f' = (rfFile d.files[i]).set k v)
    (hn : f'.name = d.files[i].name) (hz : f'.lasts ≤ f'.bytes.length ∧ f'.bytes.length ≤ 16777216) : RfIs (w.setCell ⟨g, off + (i * 5 + k), none⟩ v) S p rv fv { d with files := d.files.set i f' } := by
  have ho : Only (fun k => k = g) w (w.setCell ⟨g, off + (i * 5 + k), none⟩ v) := only_setCell (fun k => k = g) _ _ _ _ rfl
  have hgr : rv.ownBlock = some g := by rw [hrv]; rfl
  have hmap : (d.files.set i f').map (·.name) = d.files.map (·.name) := by
    refine List.ext_getElem (by simp) fun j h1 h2 => ?_
    rw [List.getElem_map, List.getElem_map, List.getElem_set]
    split
    · rename_i e; subst e; exact hn
    · rfl
  have hmem : ∀ f ∈ d.files.set i f', f = f' ∨ f ∈ d.files := fun f hf' => by
    rcases List.mem_or_eq_of_mem_set hf' with h1 | h1
    · exact .inr h1
    · exact .inl h1
  exact {
    head := (ho.block p (h.low p h.footp) (fun e => h.rp g hgr e.symm)).trans h.head
    files := by
      have h1 := h.files
      rw [hrv] at h1
      have h2 := h1.setAt (j := i * 5 + k) (by omega) v
      rw [← rfCells_set d.files i k v f' hi hk hf] at h2
      rw [hrv]
      simpa using h2
    fates := h.fates.kept (fun k hk' => ho.block k (h.low k (h.footf k hk')) (fun e => h.rf g hgr (by rw [← e]; exact hk')))
    footp := h.footp
    footr := h.footr
    footf := h.footf
    low := fun k hk' => Nat.lt_of_lt_of_le (h.low k hk') ho.size
    sorted := by rw [hmap]; exact h.sorted
    names := fun f hf' => by
      rcases hmem f hf' with rfl | h1
      · rw [hn]; exact h.names _ (List.getElem_mem hi)
      · exact h.names f h1
    sizes := fun f hf' => by
      rcases hmem f hf' with rfl | h1
      · exact hz
      · exact h.sizes f h1
    few := by simpa using h.few }
theorem RfIs.drew (h : RfIs w S p rv fv d) : RfIs w.drew S p rv fv d := h.kept (fun _ _ => rfl) (Nat.le_refl _)
theorem RfIs.drewN (h : RfIs w S p rv fv d) (n : Nat) : RfIs (w.drewN n) S p rv fv d := h.kept (fun _ _ => rfl) (Nat.le_refl _)
end
theorem only_drewN {S : Nat → Prop} {w w' : World} (h : Only S w w') (n : Nat) : Only S w (w'.drewN n) := ⟨h.os, h.tape, h.output, h.size, h.block⟩
/-- what a call leaves of the document's disk -/
def ROpIs (w : World) (S : Nat → Prop) (p : Nat) (r : Int × Dk) (e : Ending) (w' : World) : Prop :=
  e = .returned (.int .i64 r.1) ∧ RfAt w' (Wid S w w') p r.2 ∧ Only S w w'
theorem rop_same {w w' : World} {S : Nat → Prop} {p : Nat} {rv fv : Value} {d d' : Dk} {n : Int} (h : RfIs w' S p rv fv d') (ho : Only S w w') (hd : d' = d) : ROpIs w S p (n, d) (.returned (.int .i64 n)) w' := by
  subst hd
  exact ⟨rfl, ⟨rv, fv, h.wider (fun k hk => .inl hk) (fun k hk => by
    rcases hk with hk | hk
    · exact h.low k hk
    · exact hk.2)⟩, ho⟩
theorem only_p {w w' : World} {S : Nat → Prop} {p : Nat} (h : Only (fun k => k = p) w w') (hp : S p) : Only S w w' := h.mono (fun i _ e => by rw [e]; exact hp)
theorem only_r {w w' : World} {S : Nat → Prop} {v : Value} {g : Nat} (h : Only (fun k => k = g) w w') (hg : v.ownBlock = some g) (hs : ∀ k, v.ownBlock = some k → S k) : Only S w w' := h.mono (fun i _ e => by rw [e]; exact hs g hg)
set_option maxRecDepth 100000 in
set_option maxHeartbeats 1000000 in
theorem refSync_b {w : World} {S : Nat → Prop} {p : Nat} {d : Dk} (h : RfAt w S p d) (nm : ByteArray) (hs : nm.size ≤ maxLen) :
    Calls Try.prog 57 #[.pointer (some ⟨p, 0, none⟩), .string nm] w fun e w' => ROpIs w S p (d.sync nm.data.toList) e w' := by
  obtain ⟨rv, fv, h⟩ := h
  obtain ⟨s, hss⟩ : ∃ s, nm.data.toList = s := ⟨_, rfl⟩
  have H := Lib.hid h
  have HSS := Lib.hid hss
  clear h
  go_enter Try.func57, Try.ntmps57
  go_wp2_with fail
  refine (refFind_b H.out nm hs).mono ?_
  rintro e w' ⟨hF, hw'⟩
  obtain rfl := hw'.symm
  rw [hss] at hF
  clear hss
  rcases hF with ⟨hn, rfl⟩ | ⟨hn, hf, rfl⟩ | ⟨hn, i, hi, hxn, hxt, hf, rfl⟩
  · have HE : Hid (ROpIs w S p (d.sync s) (.returned (.int .i64 2)) w) := Lib.hid (by
      rw [show d.sync s = (2, d) by simp [Dk.sync, hn]]
      exact rop_same H.out (Only.refl _ _) rfl)
    clear hn
    go_wp2_with fail
    go_ret
    rw [HSS.out]
    exact HE.out
  · have HE : Hid (ROpIs w S p (d.sync s) (.returned (.int .i64 171)) w) := Lib.hid (by
      rw [show d.sync s = (171, d) by simp [Dk.sync, hn, hf]]
      exact rop_same H.out (Only.refl _ _) rfl)
    clear hn hf
    go_wp2_with fail
    go_ret
    rw [HSS.out]
    exact HE.out
  · have HX := Lib.hid (And.intro hn (And.intro hxn (And.intro hxt hf)))
    clear hn hxn hxt hf
    go_wp2_with fail
    refine (refStep_b H.out).mono ?_
    rintro e w2 ⟨kp, fv2, rfl, hkp, h2, ho2⟩
    obtain ⟨oa, c, rfl, hnc⟩ := h2.files.shape
    obtain ⟨N, hN⟩ : ∃ N, d.files.length = N := ⟨_, rfl⟩
    obtain ⟨x, hx⟩ : ∃ x, d.files[i] = x := ⟨_, rfl⟩
    have hfl : d.next.files = d.files := rfl
    have hrow := h2.files
    rw [hfl, hN] at hrow
    have hiN : i < N := by omega
    obtain ⟨g, off, rfl⟩ := hrow.addr (by omega)
    obtain ⟨bs, hbs⟩ : ∃ a : ByteArray, a = ⟨x.bytes.toArray⟩ := ⟨_, rfl⟩
    have hbl : (bs.size : Int) = (x.bytes.length : Int) := by rw [hbs]; simp [ByteArray.size]
    obtain ⟨la, hla⟩ : ∃ a : Int, a = (x.lasts : Int) := ⟨_, rfl⟩
    have c0 : w2.cell? ⟨p, 0, none⟩ = some (.slice (some ⟨g, off, none⟩) N c) := cell_of h2.head (by rw [← hN]; rfl)
    have k1 : w2.cell? ⟨g, off + i * 5 + 1, none⟩ = some (.string bs) := rf_cell (i := 1) hrow hi (by omega) (by rw [hx, hbs]; rfl)
    have k2 : w2.cell? ⟨g, off + i * 5 + 2, none⟩ = some (.int .i64 la) := rf_cell (i := 2) hrow hi (by omega) (by rw [hx, hla]; rfl)
    have z2 : w2.frozen? ⟨g, off + i * 5 + 2, none⟩ = false := by have := hrow.freeAt (j := i * 5 + 2) (by omega); rwa [← Nat.add_assoc] at this
    have hsz := h2.sizes x (by rw [hfl, ← hx]; exact List.getElem_mem hi)
    have hN4 : N ≤ 4096 := by rw [← hN]; exact h2.few
    obtain ⟨er, her⟩ : ∃ n, d.fate.1 = n := ⟨_, rfl⟩
    rw [her] at hkp ⊢
    have hlb : 0 ≤ la ∧ la ≤ (bs.size : Int) ∧ (bs.size : Int) ≤ 16777216 := by omega
    have HD : Hid (∀ (v : Int) (W : World), v = ((if er = 0 then x.bytes.length else x.lasts + min (x.bytes.length - x.lasts) d.fate.2 : Nat) : Int) → (∃ a, W = w2.drewN a) → ROpIs w S p (d.sync s) (.returned (.int .i64 er)) (W.setCell ⟨g, off + i * 5 + 2, none⟩ (.int .i64 v)).drew) := Lib.hid (fun v W hv hW => by
      obtain ⟨na, hW⟩ := hW
      have hde : d.sync s = (er, { d.next with files := d.files.set i { x with lasts := if er = 0 then x.bytes.length else x.lasts + min (x.bytes.length - x.lasts) d.fate.2 } }) := by
        unfold Dk.sync
        rw [if_neg (by rw [HX.out.1]; simp), HX.out.2.2.2, her]
        simp only [Dk.turn]
        rw [turn_set h2.sorted (i := i) hi HX.out.2.1]
        simp only [hfl, hx]
      have h3 := (h2.drewN na).file_set (i := i) (k := 2) (v := .int .i64 v) (f' := { x with lasts := if er = 0 then x.bytes.length else x.lasts + min (x.bytes.length - x.lasts) d.fate.2 }) hi rfl (by omega)
        (by show rfFile _ = (rfFile d.files[i]).set 2 _; rw [hx, hv]; rfl) (by show x.name = d.files[i].name; rw [hx]) ⟨by show (if er = 0 then _ else _) ≤ x.bytes.length; split <;> omega, hsz.2⟩
      rw [hde, hW]
      rw [← Nat.add_assoc] at h3
      refine rop_same h3.drew (only_drew ?_) rfl
      refine ((only_p (only_drewN ho2 na) H.out.footp).trans (only_r (v := .slice (some ⟨g, off, none⟩) d.files.length c) (g := g) (only_setCell (fun k => k = g) _ _ _ _ rfl) rfl H.out.footr) (fun _ _ h => h))
      )
    have HKP := Lib.hid (And.intro hkp (And.intro hbl hla))
    clear hrow hx hbs hla hsz her hkp hnc hN h2 ho2 HX hfl hbl
    by_cases h0 : er = 0
    · subst h0
      go_wp2_with fail
      go_quiet (fail)
      go_wp2_with fail
      obtain ⟨w5, hw5⟩ : ∃ x, x = w2.drewN nq := ⟨_, rfl⟩
      have d0 : w5.cell? ⟨p, 0, none⟩ = some (.slice (some ⟨g, off, none⟩) N c) := by rw [hw5]; exact c0
      have d2 : w5.cell? ⟨g, off + i * 5 + 2, none⟩ = some (.int .i64 la) := by rw [hw5]; exact k2
      have y2 : w5.frozen? ⟨g, off + i * 5 + 2, none⟩ = false := by rw [hw5]; exact z2
      rw [← hw5]
      have HW5 : Hid (∃ a, w5 = w2.drewN a) := Lib.hid ⟨nq, hw5⟩
      clear hw5 z2 c0 k1 k2
      go_region
      go_wp2_with fail
      go_ret
      rw [HSS.out]
      refine HD.out _ _ ?_ HW5.out
      have h1 := HKP.out
      simp
      omega
    · have hne : (er != 0) = true := by simpa using h0
      have HKQ : Hid (0 ≤ kp ∧ kp = d.fate.2) := Lib.hid (by have := HKP.out.1 h0; omega)
      have hkq := HKQ.out.1
      by_cases hlt : kp < (bs.size : Int) - la
      · skip
        go_wp2_with fail
        go_quiet (fail)
        go_wp2_with fail
        obtain ⟨w5, hw5⟩ : ∃ x, x = w2.drewN nq := ⟨_, rfl⟩
        have d0 : w5.cell? ⟨p, 0, none⟩ = some (.slice (some ⟨g, off, none⟩) N c) := by rw [hw5]; exact c0
        have d2 : w5.cell? ⟨g, off + i * 5 + 2, none⟩ = some (.int .i64 la) := by rw [hw5]; exact k2
        have y2 : w5.frozen? ⟨g, off + i * 5 + 2, none⟩ = false := by rw [hw5]; exact z2
        rw [← hw5]
        have HW5 : Hid (∃ a, w5 = w2.drewN a) := Lib.hid ⟨nq, hw5⟩
        clear hw5 z2 c0 k1 k2
        go_region
        go_wp2_with fail
        go_ret
        rw [HSS.out]
        refine HD.out _ _ ?_ HW5.out
        have h1 := HKP.out
        have h2 := HKQ.out
        rw [if_neg h0]
        omega
      · skip
        go_wp2_with fail
        go_quiet (fail)
        go_wp2_with fail
        obtain ⟨w5, hw5⟩ : ∃ x, x = w2.drewN nq := ⟨_, rfl⟩
        have d0 : w5.cell? ⟨p, 0, none⟩ = some (.slice (some ⟨g, off, none⟩) N c) := by rw [hw5]; exact c0
        have d2 : w5.cell? ⟨g, off + i * 5 + 2, none⟩ = some (.int .i64 la) := by rw [hw5]; exact k2
        have y2 : w5.frozen? ⟨g, off + i * 5 + 2, none⟩ = false := by rw [hw5]; exact z2
        rw [← hw5]
        have HW5 : Hid (∃ a, w5 = w2.drewN a) := Lib.hid ⟨nq, hw5⟩
        clear hw5 z2 c0 k1 k2
        go_region
        go_wp2_with fail
        go_ret
        rw [HSS.out]
        refine HD.out _ _ ?_ HW5.out
        have h1 := HKP.out
        have h2 := HKQ.out
        rw [if_neg h0]
        omega
end Go.Proofs.Ytmkjejngnahpeaa
/- The document's disk: Append. -/
namespace Go.Proofs.Ytmkjejngnahpeaa
open Go Go.Maps Go.RowKit
open Go.Proofs (encStr)

theorem run_string_rd {P : Program} (w : World) (src dst e : TypeId) (oa : Option Addr) (n c : Nat) (l : List UInt8) (hl : l.length = n) (hs : P.underlying src = some (.slice e)) (he : P.underlying e = some (.int .u8)) (hd : P.underlying dst = some .string)
    (h : readAt w 1 (.slice oa n c) n (byteCells l)) : (convert src dst (.slice oa n c)).run P w = .ok (.string ⟨l.toArray⟩) w := by
  subst hl
  rcases h.2 with ⟨h0, oa', c', hv, hn⟩ | ⟨g, off, c', hv, h0, hg, hc, hj⟩
  · simp only [Value.slice.injEq] at hv
    obtain ⟨rfl, -, rfl⟩ := hv
    have hl : l = [] := List.eq_nil_of_length_eq_zero h0
    subst hl
    cases oa with
    | none => 
      obtain rfl := hn rfl
      exact run_string_row w 0 src dst e _ [] hs he hd ⟨rfl, .inl ⟨rfl, rfl⟩⟩
    | some a => exact run_convert_bytes_back w src dst e a c [] hs he hd fun j hj => by cases hj
  · simp only [Value.slice.injEq] at hv
    obtain ⟨rfl, -, rfl⟩ := hv
    refine run_convert_bytes_back w src dst e ⟨g, off, none⟩ c l hs he hd fun j hj' => ?_
    rw [Go.WideShapes.add_plain]
    exact hj j _ (by simp [byteCells, hj'])
set_option maxRecDepth 100000 in
set_option maxHeartbeats 1000000 in
theorem refAppend_b {w : World} {S : Nat → Prop} {p : Nat} {d : Dk} (h : RfAt w S p d) (nm : ByteArray) (hs : nm.size ≤ maxLen) (oa : Option Addr) (c : Nat) (b : List UInt8) (hb : readAt w 1 (.slice oa b.length c) b.length (byteCells b)) (hbS : ∀ k, (Value.slice oa b.length c).ownBlock = some k → 0 < b.length → ¬ S k) :
    Calls Try.prog 56 #[.pointer (some ⟨p, 0, none⟩), .string nm, .slice oa b.length c] w fun e w' => ROpIs w S p (d.append nm.data.toList b) e w' := by
  obtain ⟨rv, fv, h⟩ := h
  obtain ⟨lb, hlb⟩ : ∃ lb, b.length = lb := ⟨_, rfl⟩
  rw [hlb] at hb hbS ⊢
  have HBW := Lib.hid (And.intro hb hbS)
  have HLB := Lib.hid hlb
  clear hb hbS hlb
  obtain ⟨s, hss⟩ : ∃ s, nm.data.toList = s := ⟨_, rfl⟩
  have H := Lib.hid h
  have HSS := Lib.hid hss
  clear h
  go_enter Try.func56, Try.ntmps56
  go_wp2_with fail
  refine (refFind_b H.out nm hs).mono ?_
  rintro e w' ⟨hF, hw'⟩
  obtain rfl := hw'.symm
  rw [hss] at hF
  clear hss
  rcases hF with ⟨hn, rfl⟩ | ⟨hn, hf, rfl⟩ | ⟨hn, i, hi, hxn, hxt, hf, rfl⟩
  · have HE : Hid (ROpIs w S p (d.append s b) (.returned (.int .i64 2)) w) := Lib.hid (by
      rw [show d.append s b = (2, d) by simp [Dk.append, hn]]
      exact rop_same H.out (Only.refl _ _) rfl)
    clear hn
    go_wp2_with fail
    go_ret
    rw [HSS.out]
    exact HE.out
  · have HE : Hid (ROpIs w S p (d.append s b) (.returned (.int .i64 171)) w) := Lib.hid (by
      rw [show d.append s b = (171, d) by simp [Dk.append, hn, hf]]
      exact rop_same H.out (Only.refl _ _) rfl)
    clear hn hf
    go_wp2_with fail
    go_ret
    rw [HSS.out]
    exact HE.out
  · obtain ⟨x, hx⟩ : ∃ x, d.files[i] = x := ⟨_, rfl⟩
    obtain ⟨oa1, c1, rfl, hnc⟩ := H.out.files.shape
    obtain ⟨N, hN⟩ : ∃ N, d.files.length = N := ⟨_, rfl⟩
    obtain ⟨bs, hbs⟩ : ∃ a : ByteArray, a = ⟨x.bytes.toArray⟩ := ⟨_, rfl⟩
    have hbl' : bs.size = x.bytes.length := by rw [hbs]; simp [ByteArray.size]
    have hrow := H.out.files
    rw [hN] at hrow
    have hiN : i < N := by omega
    obtain ⟨g, off, rfl⟩ := hrow.addr (by omega)
    have hN4 : N ≤ 4096 := by rw [← hN]; exact H.out.few
    have hsz := H.out.sizes x (by rw [← hx]; exact List.getElem_mem hi)
    have c0 : w.cell? ⟨p, 0, none⟩ = some (.slice (some ⟨g, off, none⟩) N c1) := cell_of H.out.head (by rw [← hN]; rfl)
    have k1 : w.cell? ⟨g, off + i * 5 + 1, none⟩ = some (.string bs) := rf_cell (i := 1) hrow hi (by omega) (by rw [hx, hbs]; rfl)
    have hbb : bs.size ≤ 16777216 := by omega
    by_cases hvast : 16777216 < lb + bs.size
    · have HE : Hid (ROpIs w S p (d.append s b) (.returned (.int .i64 6)) w) := Lib.hid (by
        rw [show d.append s b = (6, d) by
          unfold Dk.append
          rw [if_neg (by rw [hn]; simp), hf, hx]
          show (if _ then _ else _) = _
          rw [if_pos (by rw [HLB.out, ← hbl']; exact hvast)]]
        exact rop_same H.out (Only.refl _ _) rfl)
      have hd : decide ((16777216 : Int) - (bs.size : Int) < (lb : Int)) = true := decide_eq_true (by omega)
      clear hn hf hxn hxt hx hnc hN hbs hbl' hrow hsz
      go_wp2_with fail
      go_ret
      rw [HSS.out]
      exact HE.out
    · have hd : decide ((16777216 : Int) - (bs.size : Int) < (lb : Int)) = false := decide_eq_false (by omega)
      have HX := Lib.hid (And.intro hn (And.intro hxn (And.intro hxt (And.intro hf (And.intro hx (And.intro hN (And.intro hbs (And.intro hbl' hsz))))))))
      clear hn hf hxn hxt hx hnc hN hbs hbl' hrow hsz
      go_wp2_with fail
      refine (refStep_b H.out).mono ?_
      rintro e w2 ⟨kp, fv2, rfl, hkp, h2, ho2⟩
      have hfl : d.next.files = d.files := rfl
      have hrow := h2.files
      rw [hfl, HX.out.2.2.2.2.2.1] at hrow
      have hh2 := h2.head
      rw [HX.out.2.2.2.2.2.1] at hh2
      have c0' : w2.cell? ⟨p, 0, none⟩ = some (.slice (some ⟨g, off, none⟩) N c1) := cell_of hh2 rfl
      have k1' : w2.cell? ⟨g, off + i * 5 + 1, none⟩ = some (.string bs) := rf_cell (i := 1) hrow hi (by omega) (by rw [HX.out.2.2.2.2.1, HX.out.2.2.2.2.2.2.1]; rfl)
      have z1' : w2.frozen? ⟨g, off + i * 5 + 1, none⟩ = false := by have := hrow.freeAt (j := i * 5 + 1) (by omega); rwa [← Nat.add_assoc] at this
      obtain ⟨er, her⟩ : ∃ n, d.fate.1 = n := ⟨_, rfl⟩
      rw [her] at hkp ⊢
      have HD : Hid (∀ (l : List UInt8) (v : ByteArray), l = (if er = 0 then b else b.take d.fate.2) → v = ⟨(x.bytes ++ l).toArray⟩ → ROpIs w S p (d.append s b) (.returned (.int .i64 er)) (w2.setCell ⟨g, off + i * 5 + 1, none⟩ (.string v)).drew) := Lib.hid (fun l v hl hv => by
        obtain ⟨hn, hxn, hxt, hf, hx, hN, hbs, hbl', hsz⟩ := HX.out
        have hde : d.append s b = (er, { d.next with files := d.files.set i { x with bytes := x.bytes ++ l } }) := by
          unfold Dk.append
          rw [if_neg (by rw [hn]; simp), hf]
          show (if _ then _ else _) = _
          rw [if_neg (by rw [HLB.out, hx, ← hbl']; exact hvast), her]
          simp only [Dk.turn]
          rw [turn_set h2.sorted (i := i) hi hxn]
          simp only [hfl, hx, hl]
        have hll : l.length ≤ lb := by
          rw [hl, ← HLB.out]
          split
          · exact Nat.le_refl _
          · rw [List.length_take]; omega
        have h3 := h2.file_set (i := i) (k := 1) (v := .string v) (f' := { x with bytes := x.bytes ++ l }) hi rfl (by omega)
          (by show rfFile _ = (rfFile d.files[i]).set 1 _; rw [hx, hv]; rfl) (by show x.name = d.files[i].name; rw [hx]) ⟨by show x.lasts ≤ (x.bytes ++ l).length; rw [List.length_append]; omega, by show (x.bytes ++ l).length ≤ _; rw [List.length_append]; omega⟩
        rw [hde]
        rw [← Nat.add_assoc] at h3
        refine rop_same h3.drew (only_drew ?_) rfl
        exact (only_p ho2 H.out.footp).trans (only_r (v := .slice (some ⟨g, off, none⟩) d.files.length c1) (g := g) (only_setCell (fun k => k = g) _ _ _ _ rfl) rfl H.out.footr) (fun _ _ h => h))
      have HBR : Hid (readAt w2 1 (.slice oa lb c) lb (byteCells b)) := Lib.hid (HBW.out.1.kept (fun k hk hk2 h0 => ho2.block k hk (fun e => HBW.out.2 k hk2 h0 (by rw [e]; exact H.out.footp))))
      have HBS : Hid (bs = ⟨x.bytes.toArray⟩) := Lib.hid HX.out.2.2.2.2.2.2.1
      have HKP := Lib.hid hkp
      clear hrow hh2 h2 ho2 her hkp hfl c0 k1 hd
      by_cases h0 : er = 0
      · subst h0
        have hcv : ∀ W : World, W = w2 ∨ W = w2.drew → (convert 79 9 (.slice oa lb c)).run Try.prog W = .ok (.string ⟨b.toArray⟩) W := fun W hW => run_string_rd W 79 9 5 oa lb c b HLB.out Try.underlying79 Try.underlying5 Try.underlying9 (by rcases hW with rfl | rfl <;> exact HBR.out)
        have hcv1 := hcv w2 (.inl rfl)
        have hcv2 := hcv w2.drew (.inr rfl)
        obtain ⟨ab, hab⟩ : ∃ a : ByteArray, a = ⟨b.toArray⟩ := ⟨_, rfl⟩
        rw [← hab] at hcv1 hcv2
        have HAB := Lib.hid hab
        have habs : ab.size = lb := by rw [hab, ← HLB.out]; simp [ByteArray.size]
        have hadd : ¬ 9223372036854775807 < bs.size + ab.size := by omega
        clear hcv hab
        go_wp2_with fail
        go_region
        go_wp2_with fail
        go_ret
        rw [HSS.out]
        exact HD.out b _ (by simp) (by rw [HBS.out, HAB.out, ByteArray.mk_append_mk])
      · have hne : (er != 0) = true := by simpa using h0
        obtain ⟨k, hk⟩ : ∃ k, d.fate.2 = k := ⟨_, rfl⟩
        have hkp : kp = (k : Int) := by rw [HKP.out h0, hk]
        subst hkp
        rw [hk] at HD
        clear hk HKP
        have hlc : lb ≤ c := HBR.out.cap
        have hz := add_zero_map oa
        by_cases hlt : k < lb
        · skip
          have hsl := fun W => run_take oa lb c k (by omega) hz W
          have hmin : min (k : Int) (lb : Int) = (k : Int) := by omega
          have hrd : readAt w2 1 (.slice oa k c) k (byteCells (b.take k)) := by
            have := HBR.out.take k (by omega)
            simpa [byteCells, List.map_take] using this
          have hkl : (b.take k).length = k := by rw [List.length_take, HLB.out]; omega
          have hcv : ∀ W : World, W = w2 ∨ W = w2.drew → (convert 79 9 (.slice oa k c)).run Try.prog W = .ok (.string ⟨(b.take k).toArray⟩) W := fun W hW => run_string_rd W 79 9 5 oa k c (b.take k) hkl Try.underlying79 Try.underlying5 Try.underlying9 (by rcases hW with rfl | rfl <;> exact hrd)
          have hcv1 := hcv w2 (.inl rfl)
          have hcv2 := hcv w2.drew (.inr rfl)
          obtain ⟨ab, hab⟩ : ∃ a : ByteArray, a = ⟨(b.take k).toArray⟩ := ⟨_, rfl⟩
          rw [← hab] at hcv1 hcv2
          have HAB := Lib.hid hab
          have habs : ab.size = k := by rw [hab, ← hkl]; simp [ByteArray.size]
          have hadd : ¬ 9223372036854775807 < bs.size + ab.size := by omega
          clear hcv hab hrd hkl hz
          go_wp2_with fail
          go_region
          go_wp2_with fail
          go_ret
          rw [HSS.out]
          exact HD.out (b.take k) _ (by rw [if_neg h0]) (by rw [HBS.out, HAB.out, ByteArray.mk_append_mk])
        · skip
          have hsl := fun W => run_take oa lb c lb (by omega) hz W
          have hmin : min (k : Int) (lb : Int) = (lb : Int) := by omega
          have hrd : readAt w2 1 (.slice oa lb c) lb (byteCells (b.take lb)) := by
            have := HBR.out.take lb (by omega)
            simpa [byteCells, List.map_take] using this
          have hkl : (b.take lb).length = lb := by rw [List.length_take, HLB.out]; omega
          have hcv : ∀ W : World, W = w2 ∨ W = w2.drew → (convert 79 9 (.slice oa lb c)).run Try.prog W = .ok (.string ⟨(b.take lb).toArray⟩) W := fun W hW => run_string_rd W 79 9 5 oa lb c (b.take lb) hkl Try.underlying79 Try.underlying5 Try.underlying9 (by rcases hW with rfl | rfl <;> exact hrd)
          have hcv1 := hcv w2 (.inl rfl)
          have hcv2 := hcv w2.drew (.inr rfl)
          obtain ⟨ab, hab⟩ : ∃ a : ByteArray, a = ⟨(b.take lb).toArray⟩ := ⟨_, rfl⟩
          rw [← hab] at hcv1 hcv2
          have HAB := Lib.hid hab
          have habs : ab.size = lb := by rw [hab, ← hkl]; simp [ByteArray.size]
          have hadd : ¬ 9223372036854775807 < bs.size + ab.size := by omega
          clear hcv hab hrd hkl hz
          go_wp2_with fail
          go_region
          go_wp2_with fail
          go_ret
          rw [HSS.out]
          exact HD.out (b.take lb) _ (by rw [if_neg h0, List.take_of_length_le (l := b) (by rw [HLB.out]; exact Nat.le_refl _), List.take_of_length_le (l := b) (by rw [HLB.out]; omega)]) (by rw [HBS.out, HAB.out, ByteArray.mk_append_mk])
end Go.Proofs.Ytmkjejngnahpeaa
/- The document's disk: rows of files that are built anew. -/
namespace Go.Proofs.Ytmkjejngnahpeaa
open Go Go.Maps Go.RowKit
open Go.Proofs (encStr)

theorem info_rfile : (Try.prog.info? 200).map (fun i => (i.zero, i.size, i.bytes)) = some (some (.agg #[.string ⟨#[]⟩, .string ⟨#[]⟩, .int .i64 0, .bool false, .bool false]), 5, 48) := by kernel_rfl
theorem rfive_row (w : World) (a b c d e : Value) : rowAt (w.alloc (.cells #[a, b, c, d, e] 200)) 200 5 (.slice (some ⟨w.heap.size, 0, none⟩) 1 1) 1 [a, b, c, d, e] :=
  ⟨rfl, .inr ⟨_, 0, 1, _, _, rfl, alloc_cells _ _ _, Nat.le_refl _, by unfold maxLen; omega, by simp, freeRow_zero _, rfl⟩⟩
/-- a row of the document's files, in blocks that are new since w0 -/
structure NewRow (w0 W : World) (v : Value) (l : List F0) : Prop where
  row : rowAt W 200 5 v l.length (rfCells l)
  own : ∀ k, v.ownBlock = some k → w0.heap.size ≤ k
  below : Below w0.heap.size w0 W
theorem NewRow.nil {w0 W : World} (h : Below w0.heap.size w0 W) : NewRow w0 W (.slice none 0 0) [] := ⟨⟨rfl, .inl ⟨rfl, rfl⟩⟩, fun k hk => by simp [Value.ownBlock] at hk, h⟩
theorem NewRow.kept {w0 W W' : World} {v : Value} {l : List F0} (h : NewRow w0 W v l) (hb : Below W.heap.size W W') : NewRow w0 W' v l :=
  ⟨h.row.kept (fun k hk => hb.block k (h.row.lt k hk)), h.own, h.below.trans (hb.mono h.below.size)⟩
theorem NewRow.alloc {w0 W : World} {v : Value} {l : List F0} (h : NewRow w0 W v l) (o : Obj) : NewRow w0 (W.alloc o) v l := h.kept ((Below.refl _ _).alloc (Nat.le_refl _) _)
theorem NewRow.len {w0 W : World} {oa : Option Addr} {m c : Nat} {l : List F0} (h : NewRow w0 W (.slice oa m c) l) : l.length = m := by
  obtain ⟨oa', c', he, _⟩ := h.row.shape
  simp only [Value.slice.injEq] at he
  exact he.2.1.symm
/-- files are appended to such a row -/
theorem wpList_append_rf {w0 w : World} {ops : Array Oper} {rest : List Oper} {o : Oper} {a : Act} {Q : Exit → Act → World → Prop} (hgd : o.guard = none) (s x : Operand)
    (ho : o.op = .call { callee := .builtin .append, args := #[s, x], argTypes := #[196, 196] })
    {oa : Option Addr} {m c : Nat} {l : List F0} (h : NewRow w0 w (.slice oa m c) l) {ob : Option Addr} {k cb : Nat} {l2 : List F0} (hk : l2.length = k) (hr : readAt w 5 (.slice ob k cb) k (rfCells l2)) {t : Nat} (ht : m + k = t) (hm : t ≤ 100000)
    (hs : a.eval s = .slice oa m c) (hx : a.eval x = .slice ob k cb)
    (hK : ∀ oa3 c3 w3, Hid (NewRow w0 w3 (.slice oa3 t c3) (l ++ l2)) → wpList Try.prog ops Q rest (a.put o.dst (.slice oa3 t c3)) w3) :
    wpList Try.prog ops Q (o :: rest) a w := by
  subst ht
  have hl := h.len
  have hrow := h.row
  rw [hl] at hrow
  refine wpList_append_at _ hgd s x 196 196 ho 200 (.agg #[.string ⟨#[]⟩, .string ⟨#[]⟩, .int .i64 0, .bool false, .bool false]) 5 48 Try.underlying196 info_rfile rfl _ m _ hs hrow _ k _ hx (Src.of_read Try.underlying196 hr (rfCells_one l2)) (by unfold maxLen; omega) (by omega) ?_
  intro v' w3 hr3 hg hown _
  obtain ⟨oa3, c3, rfl, _⟩ := hr3.shape
  refine hK oa3 c3 w3 (Lib.hid ⟨?_, ?_, ?_⟩)
  · rw [List.length_append, hl, hk, rfCells_append]
    exact hr3
  · intro j hj
    rcases hown with h1 | h1
    · exact h.own j (by rw [← h1]; exact hj)
    · rw [hj] at h1
      simp only [Option.some.injEq] at h1
      have := h.below.size
      omega
  · exact h.below.grown hg h.below.size (fun k hk' => h.own k hk')
theorem rtake_run {oa : Option Addr} {n c : Nat} (i : Nat) (hi : i ≤ c) (h0 : oa.map (fun x => x.add 0) = oa) (W : World) : (Instr.slice 196 (.slice oa n c) none (some (.int .i64 (i : Int))) none).run Try.prog W = .ok (.slice oa i c) W := by
  have hs : (sizeOf 200).run Try.prog W = .ok 5 W := by kernel_rfl
  have he : Try.prog.elem 196 = 200 := by kernel_rfl
  rw [run_slice_h (P := Try.prog) (w := W) 196 oa n c (by rw [he]; exact Try.underlying196) .i64 i (by omega) (by omega), he, hs]
  simp [Result.andThen, sliced, h0]
theorem rdrop_run (oa : Option Addr) (n c i : Nat) (hi : i ≤ n) (W : World) : (Instr.slice 196 (.slice oa n c) (some (.int .i64 (i : Int))) none none).run Try.prog W = .ok (.slice (if c = i then oa else oa.map (·.add (i * 5))) (n - i) (c - i)) W := by
  have hs : (sizeOf 200).run Try.prog W = .ok 5 W := by kernel_rfl
  have he : Try.prog.elem 196 = 200 := by kernel_rfl
  rw [run_slice_l (P := Try.prog) (w := W) 196 oa n c (by rw [he]; exact Try.underlying196) .i64 i (by omega) (by omega), he, hs]
  simp [Result.andThen, sliced]
theorem rowAt.files_take {w : World} {oa : Option Addr} {c n j : Nat} {l : List F0} (h : rowAt w 200 5 (.slice oa n c) n (rfCells l)) (hj : j ≤ n) : readAt w 5 (.slice oa j c) j (rfCells (l.take j)) := by
  rw [rfCells_take]
  exact (rowAt.take h j hj).read
theorem rowAt.files_drop {w : World} {oa : Option Addr} {c n j : Nat} {l : List F0} (h : rowAt w 200 5 (.slice oa n c) n (rfCells l)) (hj : j ≤ n) : readAt w 5 (.slice (if c = j then oa else oa.map (·.add (j * 5))) (n - j) (c - j)) (n - j) (rfCells (l.drop j)) := by
  obtain ⟨oa', c', he, hc⟩ := h.shape
  simp only [Value.slice.injEq] at he
  obtain ⟨-, -, rfl⟩ := he
  have h1 := (h.sub j n c hj (Nat.le_refl _) hc (Nat.le_refl _)).read
  have hl : (rfCells l).length = n * 5 := h.1
  have e : ((rfCells l).drop (j * 5)).take ((n - j) * 5) = rfCells (l.drop j) := by
    rw [rfCells_drop, List.take_of_length_le]
    rw [List.length_drop, hl]
    omega
  rw [e] at h1
  exact h1
/-- where a file is put in -/
theorem insF_at (f : F0) : ∀ (l : List F0) (j : Nat), j ≤ l.length → (∀ g ∈ l.take j, g.name < f.name) → (∀ h : j < l.length, ¬ l[j].name < f.name) → insF f l = l.take j ++ f :: l.drop j
  | [], j, hj, _, _ => by
    obtain rfl : j = 0 := by simpa using hj
    rfl
  | g :: r, 0, _, _, h => by
    have h0 := h (by simp)
    show (if g.name < f.name then _ else _) = _
    rw [if_neg (by simpa using h0)]
    rfl
  | g :: r, j + 1, hj, h1, h2 => by
    have h0 := h1 g (by simp)
    show (if g.name < f.name then _ else _) = _
    rw [if_pos h0, insF_at f r j (by simpa using hj) (fun x hx => h1 x (by simp [hx])) (fun hlt => h2 (by simpa using hlt))]
    rfl
theorem less_eq : ∀ (x y : List UInt8), Op.bytesLess x y = decide (x < y)
  | [], [] => by simp [Op.bytesLess]
  | _ :: _, [] => by simp [Op.bytesLess]
  | [], _ :: _ => by simp [Op.bytesLess]
  | a :: x, b :: y => by
    rw [Op.bytesLess, less_eq x y]
    by_cases h : a < b
    · simp [h, List.cons_lt_cons_iff]
    · by_cases e : a = b
      · subst e; simp
      · simp [h, e, List.cons_lt_cons_iff]
theorem str_less {a b : ByteArray} {t : Bool} (h : decide (a.data.toList < b.data.toList) = t) : Op.bytesLess a.toList b.toList = t := by
  rw [less_eq, ← h, Lib.toList_data, Lib.toList_data]
/-- a new row of files is stored -/
theorem rf_store {w w2 w5 : World} {S : Nat → Prop} {p : Nat} {rv fv : Value} {d1 : Dk} (h2 : RfIs w2 S p rv fv d1) (ho2 : Only (fun k => k = p) w w2) {v' : Value} {fl' : List F0} (hr : NewRow w2 w5 v' fl')
    (hs : (fl'.map (·.name)).Pairwise (· < ·)) (hn : ∀ f ∈ fl', nameOk f.name = true) (hz : ∀ f ∈ fl', f.lasts ≤ f.bytes.length ∧ f.bytes.length ≤ 16777216) (hf : fl'.length ≤ 4096) (er : Int) :
    ROpIs w S p (er, { d1 with files := fl' }) (.returned (.int .i64 er)) (w5.setCell ⟨p, 0, none⟩ v') := by
  have hplt : p < w2.heap.size := h2.low p h2.footp
  have hset : Only (fun k => k = p) w5 (w5.setCell ⟨p, 0, none⟩ v') := only_setCell (fun k => k = p) _ _ _ _ rfl
  have ho : Only (fun k => k = p) w2 (w5.setCell ⟨p, 0, none⟩ v') := (Only.of_below hr.below (Nat.le_refl _) _).trans hset (fun _ _ h => h)
  have hsz5 := hr.below.size
  have hszs := hset.size
  have hsz2 := ho2.size
  have hp5 := (hr.below.block p hplt).trans h2.head
  refine ⟨rfl, ⟨v', fv, ?_⟩, (only_p ho2 h2.footp).trans (only_p ho h2.footp) (fun _ _ h => h)⟩
  refine h2.files_turn ho (heap_setCell_here _ hp5) (hr.row.kept (fun k hk => hset.block k (hr.row.lt k hk) (fun e => by have := hr.own k hk; omega))) (fun k hk => .inl hk) (fun k hk => .inr ⟨?_, ?_⟩) (fun k hk => ?_) hs hn hz hf
  · have := hr.own k hk
    omega
  · have := hr.row.lt k hk
    omega
  · rcases hk with hk | hk
    · have := h2.low k hk
      omega
    · exact hk.2
end Go.Proofs.Ytmkjejngnahpeaa
/- The document's disk: Create. -/
namespace Go.Proofs.Ytmkjejngnahpeaa
open Go Go.Maps Go.RowKit
open Go.Proofs (encStr)

theorem create_sizes {l : List F0} {s : List UInt8} (h : ∀ f ∈ l, f.lasts ≤ f.bytes.length ∧ f.bytes.length ≤ 16777216) : ∀ f ∈ insF ⟨s, [], 0, true, false⟩ l, f.lasts ≤ f.bytes.length ∧ f.bytes.length ≤ 16777216 := fun f hf => by
  rcases (mem_insF _ f l).1 hf with rfl | hf
  · exact ⟨Nat.le_refl _, by show (0 : Nat) ≤ _; omega⟩
  · exact h f hf
theorem create_names {l : List F0} {s : List UInt8} (hs : nameOk s = true) (h : ∀ f ∈ l, nameOk f.name = true) : ∀ f ∈ insF ⟨s, [], 0, true, false⟩ l, nameOk f.name = true := fun f hf => by
  rcases (mem_insF _ f l).1 hf with rfl | hf
  · exact hs
  · exact h f hf
set_option maxRecDepth 100000 in
set_option maxHeartbeats 2000000 in
theorem refCreate_b {w : World} {S : Nat → Prop} {p : Nat} {d : Dk} (h : RfAt w S p d) (nm : ByteArray) (hs : nm.size ≤ maxLen) :
    Calls Try.prog 55 #[.pointer (some ⟨p, 0, none⟩), .string nm] w fun e w' => ROpIs w S p (d.create nm.data.toList) e w' := by
  obtain ⟨rv, fv, h⟩ := h
  obtain ⟨s, hss⟩ : ∃ s, nm.data.toList = s := ⟨_, rfl⟩
  have H := Lib.hid h
  have HSS := Lib.hid hss
  clear h
  go_enter Try.func55, Try.ntmps55
  go_wp2_with fail
  refine (refNamed_any nm _ hs).mono ?_
  rintro e w' ⟨rfl, hw'⟩
  obtain rfl := hw'.symm
  rw [hss]
  clear hss
  cases hn : nameOk s with
  | false =>
    have HE : Hid (ROpIs w S p (d.create s) (.returned (.int .i64 2)) w) := Lib.hid (by
      rw [show d.create s = (2, d) by simp [Dk.create, hn]]
      exact rop_same H.out (Only.refl _ _) rfl)
    clear hn
    go_wp2_with fail
    go_ret
    rw [HSS.out]
    exact HE.out
  | true =>
    have HNK := Lib.hid hn
    clear hn
    go_wp2_with fail
    refine (refAt_b H.out nm).mono ?_
    rintro e w1 ⟨hp, hw1⟩
    obtain rfl := hw1.symm
    rw [HSS.out] at hp
    rcases hp with ⟨ha, rfl⟩ | ⟨i, hi, hxn, ha, rfl⟩
    case inr =>
      have HE : Hid (ROpIs w S p (d.create s) (.returned (.int .i64 170)) w) := Lib.hid (by
        rw [show d.create s = (170, d) by simp [Dk.create, HNK.out, ha]]
        exact rop_same H.out (Only.refl _ _) rfl)
      have hd : decide ((0 : Int) ≤ (i : Int)) = true := decide_eq_true (by omega)
      clear ha hxn
      go_wp2_with fail
      go_ret
      rw [HSS.out]
      exact HE.out
    obtain ⟨oa, c, rfl, hnc⟩ := H.out.files.shape
    obtain ⟨N, hN⟩ : ∃ N, d.files.length = N := ⟨_, rfl⟩
    have hN4 : N ≤ 4096 := by rw [← hN]; exact H.out.few
    have c0 : w.cell? ⟨p, 0, none⟩ = some (.slice oa N c) := cell_of H.out.head (by rw [← hN]; rfl)
    have HAT := Lib.hid (And.intro ha hN)
    rw [hN] at hnc
    clear ha hN
    by_cases hfew : 4096 ≤ N
    · have HE : Hid (ROpIs w S p (d.create s) (.returned (.int .i64 6)) w) := Lib.hid (by
        rw [show d.create s = (6, d) by
          unfold Dk.create
          rw [if_neg (by rw [HNK.out]; simp), if_neg (by rw [HAT.out.1]; simp), if_pos (by rw [HAT.out.2]; exact hfew)]]
        exact rop_same H.out (Only.refl _ _) rfl)
      have hd : decide ((4096 : Int) ≤ (N : Int)) = true := decide_eq_true (by omega)
      go_wp2_with fail
      go_ret
      rw [HSS.out]
      exact HE.out
    have hd : decide ((4096 : Int) ≤ (N : Int)) = false := decide_eq_false (by omega)
    go_wp2_with fail
    refine (refStep_b H.out).mono ?_
    rintro e w2 ⟨kp, fv2, rfl, -, h2, ho2⟩
    clear hd c0
    obtain ⟨er, her⟩ : ∃ n, d.fate.1 = n := ⟨_, rfl⟩
    rw [her]
    by_cases h0 : er = 0
    case neg =>
      have hne : (er != 0) = true := by simpa using h0
      have HE : Hid (ROpIs w S p (d.create s) (.returned (.int .i64 er)) w2) := Lib.hid (by
        rw [show d.create s = (er, d.next) by
          unfold Dk.create
          rw [if_neg (by rw [HNK.out]; simp), if_neg (by rw [HAT.out.1]; simp), if_neg (by rw [HAT.out.2]; exact hfew), if_pos (by rw [her]; exact h0), her]]
        exact rop_same h2 (only_p ho2 H.out.footp) rfl)
      clear h2 ho2 her
      go_wp2_with fail
      go_ret
      rw [HSS.out]
      exact HE.out
    subst h0
    have hfl : d.next.files = d.files := rfl
    have hrow := h2.files
    rw [hfl, HAT.out.2] at hrow
    have hh2 := h2.head
    rw [HAT.out.2] at hh2
    have hplt : p < w2.heap.size := h2.low p h2.footp
    have c0 : w2.cell? ⟨p, 0, none⟩ = some (.slice oa N c) := cell_of hh2 rfl
    have HH2 := Lib.hid (And.intro hh2 hrow)
    have HD : Hid (∀ (j : Nat) (w5 : World) (v' : Value), j ≤ N → (∀ f ∈ d.files.take j, f.name < s) → (∀ h : j < d.files.length, ¬ d.files[j].name < s) → NewRow w2 w5 v' (d.files.take j ++ ⟨s, [], 0, true, false⟩ :: d.files.drop j) → ROpIs w S p (d.create s) (.returned (.int .i64 0)) (w5.setCell ⟨p, 0, none⟩ v')) := Lib.hid (fun j w5 v' hj h1 h3 hr => by
      have hno : ∀ g ∈ d.files, g.name ≠ s := fun g hg he => by
        have := List.find?_eq_none.1 HAT.out.1 g hg
        simp [he] at this
      have hins := insF_at (⟨s, [], 0, true, false⟩ : F0) d.files j (by rw [HAT.out.2]; exact hj) h1 h3
      rw [← hins] at hr
      have hde : d.create s = (0, { d.next with files := insF ⟨s, [], 0, true, false⟩ d.files }) := by
        unfold Dk.create
        rw [if_neg (by rw [HNK.out]; simp), if_neg (by rw [HAT.out.1]; simp), if_neg (by rw [HAT.out.2]; exact hfew), if_neg (by rw [her]; simp)]
      rw [hde]
      exact rf_store h2 ho2 hr (insF_sorted _ _ h2.sorted (by exact hno)) (create_names HNK.out h2.names) (create_sizes h2.sizes) (by rw [insF_length, HAT.out.2]; omega) 0)
    clear h2 ho2 her hrow hh2 hfl hfew
    have HFX : Hid (rfCells [⟨s, [], 0, true, false⟩] = [.string nm, .string ⟨#[]⟩, .int .i64 0, .bool true, .bool false]) := Lib.hid (by rw [← HSS.out]; rfl)
    go_wp2_with fail
    go_loop [9] (fun i => ∃ j : Nat, j ≤ N ∧ i = .int .i64 j ∧ Hid (∀ f ∈ d.files.take j, f.name < s)) (fun i => N - (intOf i).toNat)
    case atStart => exact ⟨0, Nat.zero_le _, rfl, Lib.hid (by simp)⟩
    case round =>
      obtain ⟨j, hj, rfl, HA⟩ := hrel
      by_cases hlt : j < N
      · have hjf : j < d.files.length := by rw [HAT.out.2]; exact hlt
        obtain ⟨g, off, rfl⟩ := HH2.out.2.addr (by omega)
        obtain ⟨x, hx⟩ : ∃ x, d.files[j] = x := ⟨_, rfl⟩
        obtain ⟨xn, hxn⟩ : ∃ a : ByteArray, a = ⟨x.name.toArray⟩ := ⟨_, rfl⟩
        have k0 : w2.cell? ⟨g, off + j * 5, none⟩ = some (.string xn) := rf_cell (i := 0) HH2.out.2 hjf (by omega) (by rw [hx, hxn]; rfl)
        by_cases hn : x.name < s
        · have hl : Op.bytesLess xn.toList nm.toList = true := str_less (decide_eq_true (by rw [hxn, HSS.out]; exact hn))
          have HA2 : Hid (∀ f ∈ d.files.take (j + 1), f.name < s) := Lib.hid (fun f hf => by
            rw [List.take_succ_eq_append_getElem hjf] at hf
            rcases List.mem_append.1 hf with h1 | h1
            · exact HA.out f h1
            · rw [List.mem_singleton] at h1
              rw [h1, hx]; exact hn)
          clear hx hxn hn
          go_wp2_with fail
          exact ⟨⟨j + 1, by omega, by simp, HA2⟩, by simp [intOf]; omega⟩
        · have hl : Op.bytesLess xn.toList nm.toList = false := str_less (decide_eq_false (by rw [hxn, HSS.out]; exact hn))
          have HB : Hid (∀ h : j < d.files.length, ¬ d.files[j].name < s) := Lib.hid (fun h => by rw [hx]; exact hn)
          clear hx hxn hn
          have hz := add_zero_map (some ⟨g, off, none⟩)
          have hsl1 := fun W => rtake_run (n := N) j (by omega : j ≤ c) hz W
          have hsl2 := fun W => rdrop_run (some ⟨g, off, none⟩) N c j hj W
          obtain ⟨od, hod⟩ : ∃ od : Option Addr, od = if c = j then some ⟨g, off, none⟩ else (some (⟨g, off, none⟩ : Addr)).map (·.add (j * 5)) := ⟨_, rfl⟩
          rw [← hod] at hsl2
          have HOD := Lib.hid hod
          clear hod hz
          go_wp2_with (at_builtin; first | (refine wpList_append_rf (w0 := w2) rfl (.tmp 53) (.tmp 59) rfl (NewRow.nil (Below.refl _ _)) (l2 := d.files.take j) (k := j) (by rw [List.length_take, HAT.out.2]; omega) (rowAt.files_take HH2.out.2 hj) (t := j) (by omega) (by omega) rfl rfl ?_; intro oa3 c3 w3 HL1) | (refine wpList_append_rf (w0 := w2) rfl (.tmp 61) (.tmp 64) rfl (HL1.out.alloc _) (l2 := [⟨s, [], 0, true, false⟩]) (k := 1) rfl (by rw [HFX.out]; exact (rfive_row w3 _ _ _ _ _).read) (t := j + 1) rfl (by omega) rfl rfl ?_; intro oa4 c4 w4 HL2; have hp4 := (HL2.out.below.block p hplt).trans HH2.out.1; have c04 : w4.cell? ⟨p, 0, none⟩ = some (.slice (some ⟨g, off, none⟩) N c) := cell_of hp4 rfl; clear hp4) | (refine wpList_append_rf (w0 := w2) rfl (.tmp 67) (.tmp 73) rfl HL2.out (l2 := d.files.drop j) (k := N - j) (by rw [List.length_drop, HAT.out.2]) (by rw [HOD.out]; exact rowAt.files_drop (HH2.out.2.kept (fun k hk => HL2.out.below.block k (HH2.out.2.lt k hk))) hj) (t := N + 1) (by omega) (by omega) rfl rfl ?_; intro oa5 c5 w5 HL3; have hp5 := (HL3.out.below.block p hplt).trans HH2.out.1; have c05 : w5.cell? ⟨p, 0, none⟩ = some (.slice (some ⟨g, off, none⟩) N c) := cell_of hp5 rfl; have z05 : w5.frozen? ⟨p, 0, none⟩ = false := free_of hp5 _; clear hp5))
          go_ret
          rw [HSS.out]
          refine HD.out j _ _ hj HA.out HB.out ?_
          have h9 := HL3.out
          simp only [List.nil_append, List.append_assoc, List.singleton_append] at h9
          exact h9
      · have HB : Hid (∀ h : j < d.files.length, ¬ d.files[j].name < s) := Lib.hid (fun h => by rw [HAT.out.2] at h; omega)
        have hz := add_zero_map oa
        have hsl1 := fun W => rtake_run (n := N) j (by omega : j ≤ c) hz W
        have hsl2 := fun W => rdrop_run oa N c j hj W
        obtain ⟨od, hod⟩ : ∃ od : Option Addr, od = if c = j then oa else (oa).map (·.add (j * 5)) := ⟨_, rfl⟩
        rw [← hod] at hsl2
        have HOD := Lib.hid hod
        clear hod hz
        go_wp2_with (at_builtin; first | (refine wpList_append_rf (w0 := w2) rfl (.tmp 53) (.tmp 59) rfl (NewRow.nil (Below.refl _ _)) (l2 := d.files.take j) (k := j) (by rw [List.length_take, HAT.out.2]; omega) (rowAt.files_take HH2.out.2 hj) (t := j) (by omega) (by omega) rfl rfl ?_; intro oa3 c3 w3 HL1) | (refine wpList_append_rf (w0 := w2) rfl (.tmp 61) (.tmp 64) rfl (HL1.out.alloc _) (l2 := [⟨s, [], 0, true, false⟩]) (k := 1) rfl (by rw [HFX.out]; exact (rfive_row w3 _ _ _ _ _).read) (t := j + 1) rfl (by omega) rfl rfl ?_; intro oa4 c4 w4 HL2; have hp4 := (HL2.out.below.block p hplt).trans HH2.out.1; have c04 : w4.cell? ⟨p, 0, none⟩ = some (.slice (oa) N c) := cell_of hp4 rfl; clear hp4) | (refine wpList_append_rf (w0 := w2) rfl (.tmp 67) (.tmp 73) rfl HL2.out (l2 := d.files.drop j) (k := N - j) (by rw [List.length_drop, HAT.out.2]) (by rw [HOD.out]; exact rowAt.files_drop (HH2.out.2.kept (fun k hk => HL2.out.below.block k (HH2.out.2.lt k hk))) hj) (t := N + 1) (by omega) (by omega) rfl rfl ?_; intro oa5 c5 w5 HL3; have hp5 := (HL3.out.below.block p hplt).trans HH2.out.1; have c05 : w5.cell? ⟨p, 0, none⟩ = some (.slice (oa) N c) := cell_of hp5 rfl; have z05 : w5.frozen? ⟨p, 0, none⟩ = false := free_of hp5 _; clear hp5))
        go_ret
        rw [HSS.out]
        refine HD.out j _ _ hj HA.out HB.out ?_
        have h9 := HL3.out
        simp only [List.nil_append, List.append_assoc, List.singleton_append] at h9
        exact h9
end Go.Proofs.Ytmkjejngnahpeaa
/- The document's disk: SyncDir, New. -/
namespace Go.Proofs.Ytmkjejngnahpeaa
open Go Go.Maps Go.RowKit
open Go.Proofs (encStr)

def syncTo (l : List F0) (j : Nat) : List F0 := ((l.take j).filter (·.there)).map fun f => { f with named := true }
theorem syncTo_succ {l : List F0} {j : Nat} (hj : j < l.length) : syncTo l (j + 1) = syncTo l j ++ (if l[j].there = true then [{ l[j] with named := true }] else []) := by
  unfold syncTo
  rw [List.take_succ_eq_append_getElem hj, List.filter_append, List.map_append]
  congr 1
  by_cases h : l[j].there = true
  · rw [if_pos h, List.filter_cons_of_pos h]; rfl
  · rw [if_neg h, List.filter_cons_of_neg h]; rfl
theorem syncTo_len (l : List F0) (j : Nat) : (syncTo l j).length ≤ l.length := by
  unfold syncTo
  rw [List.length_map]
  exact ((List.filter_sublist).trans (List.take_sublist j l)).length_le
theorem syncTo_all (l : List F0) : syncTo l l.length = (l.filter (·.there)).map fun f => { f with named := true } := by unfold syncTo; rw [List.take_length]
theorem sync_sorted {l : List F0} (h : (l.map (·.name)).Pairwise (· < ·)) : (((l.filter (·.there)).map fun f => ({ f with named := true } : F0)).map (·.name)).Pairwise (· < ·) := by
  rw [List.map_map]
  exact h.sublist ((List.filter_sublist).map _)
set_option maxRecDepth 100000 in
set_option maxHeartbeats 2000000 in
theorem refSyncDir_b {w : World} {S : Nat → Prop} {p : Nat} {d : Dk} (h : RfAt w S p d) :
    Calls Try.prog 58 #[.pointer (some ⟨p, 0, none⟩)] w fun e w' => ROpIs w S p d.syncdir e w' := by
  obtain ⟨rv, fv, h⟩ := h
  have H := Lib.hid h
  clear h
  go_enter Try.func58, Try.ntmps58
  go_wp2_with fail
  refine (refStep_b H.out).mono ?_
  rintro e w2 ⟨kp, fv2, rfl, -, h2, ho2⟩
  obtain ⟨er, her⟩ : ∃ n, d.fate.1 = n := ⟨_, rfl⟩
  rw [her]
  by_cases h0 : er = 0
  case neg =>
    have hne : (er != 0) = true := by simpa using h0
    have HE : Hid (ROpIs w S p d.syncdir (.returned (.int .i64 er)) w2) := Lib.hid (by
      rw [show d.syncdir = (er, d.next) by
        unfold Dk.syncdir
        rw [if_pos (by rw [her]; exact h0), her]]
      exact rop_same h2 (only_p ho2 H.out.footp) rfl)
    clear h2 ho2 her
    go_wp2_with fail
    go_ret
    exact HE.out
  subst h0
  obtain ⟨oa, c, rfl, hnc⟩ := H.out.files.shape
  obtain ⟨N, hN⟩ : ∃ N, d.files.length = N := ⟨_, rfl⟩
  have hN4 : N ≤ 4096 := by rw [← hN]; exact H.out.few
  have hfl : d.next.files = d.files := rfl
  have hrow := h2.files
  rw [hfl, hN] at hrow
  have hh2 := h2.head
  rw [hN] at hh2
  have hplt : p < w2.heap.size := h2.low p h2.footp
  have HH2 := Lib.hid (And.intro hh2 (And.intro hrow hplt))
  have HN := Lib.hid hN
  have HD : Hid (∀ (w5 : World) (v' : Value), NewRow w2 w5 v' (syncTo d.files N) → ROpIs w S p d.syncdir (.returned (.int .i64 0)) (w5.setCell ⟨p, 0, none⟩ v')) := Lib.hid (fun w5 v' hr => by
    rw [← HN.out, syncTo_all] at hr
    have hde : d.syncdir = (0, { d.next with files := (d.files.filter (·.there)).map fun f => { f with named := true } }) := by
      unfold Dk.syncdir
      rw [if_neg (by rw [her]; simp)]
    have hmem : ∀ f ∈ (d.files.filter (·.there)).map fun f => ({ f with named := true } : F0), ∃ g ∈ d.files, f.name = g.name ∧ f.lasts = g.lasts ∧ f.bytes = g.bytes := fun f hf => by
      obtain ⟨g, hg, rfl⟩ := List.mem_map.1 hf
      exact ⟨g, (List.mem_filter.1 hg).1, rfl, rfl, rfl⟩
    rw [hde]
    refine rf_store h2 ho2 hr (sync_sorted h2.sorted) (fun f hf => ?_) (fun f hf => ?_) ?_ 0
    · obtain ⟨g, hg, e1, _, _⟩ := hmem f hf
      rw [e1]; exact h2.names g hg
    · obtain ⟨g, hg, _, e2, e3⟩ := hmem f hf
      rw [e2, e3]; exact h2.sizes g hg
    · rw [List.length_map]
      have := (List.filter_sublist (l := d.files) (p := (·.there))).length_le
      omega)
  clear h2 ho2 her hrow hh2 hfl hN hnc
  go_wp2_with fail
  go_loopw [5, 6] (fun sl i wr => ∃ (j m : Nat) (ol : Option Addr) (cl : Nat), j ≤ N ∧ m ≤ N ∧ sl = .slice ol m cl ∧ i = .int .i64 j ∧ Hid (NewRow w2 wr (.slice ol m cl) (syncTo d.files j))) (fun _ i wr => N - (intOf i).toNat)
  case atStart => exact ⟨0, 0, none, 0, Nat.zero_le _, Nat.zero_le _, rfl, rfl, Lib.hid (NewRow.nil (Below.refl _ _))⟩
  case round =>
    obtain ⟨j, m, ol, cl, hj, hm, rfl, rfl, HR⟩ := hrel
    have hp' := (HR.out.below.block p HH2.out.2.2).trans HH2.out.1
    have c0 : wr.cell? ⟨p, 0, none⟩ = some (.slice oa N c) := cell_of hp' rfl
    have z0 : wr.frozen? ⟨p, 0, none⟩ = false := free_of hp' _
    by_cases hlt : j < N
    · have hjf : j < d.files.length := by rw [HN.out]; exact hlt
      have hrw := HH2.out.2.1.kept (fun k hk => HR.out.below.block k (HH2.out.2.1.lt k hk))
      obtain ⟨g, off, rfl⟩ := hrw.addr (by omega)
      obtain ⟨x, hx⟩ : ∃ x, d.files[j] = x := ⟨_, rfl⟩
      obtain ⟨x0, hx0⟩ : ∃ a : ByteArray, a = ⟨x.name.toArray⟩ := ⟨_, rfl⟩
      obtain ⟨x1, hx1⟩ : ∃ a : ByteArray, a = ⟨x.bytes.toArray⟩ := ⟨_, rfl⟩
      obtain ⟨x2, hx2⟩ : ∃ a : Int, a = (x.lasts : Int) := ⟨_, rfl⟩
      obtain ⟨x3, hx3⟩ : ∃ a, a = x.there := ⟨_, rfl⟩
      obtain ⟨x4, hx4⟩ : ∃ a, a = x.named := ⟨_, rfl⟩
      have hxc : rfFile x = [.string x0, .string x1, .int .i64 x2, .bool x3, .bool x4] := by
        unfold rfFile
        rw [hx0, hx1, hx2, hx3, hx4]
      have k0 : wr.cell? ⟨g, off + j * 5, none⟩ = some (.string x0) := rf_cell (i := 0) hrw hjf (by omega) (by rw [hx, hxc]; rfl)
      have k1 : wr.cell? ⟨g, off + j * 5 + 1, none⟩ = some (.string x1) := rf_cell (i := 1) hrw hjf (by omega) (by rw [hx, hxc]; rfl)
      have k2 : wr.cell? ⟨g, off + j * 5 + 2, none⟩ = some (.int .i64 x2) := rf_cell (i := 2) hrw hjf (by omega) (by rw [hx, hxc]; rfl)
      have k3 : wr.cell? ⟨g, off + j * 5 + 3, none⟩ = some (.bool x3) := rf_cell (i := 3) hrw hjf (by omega) (by rw [hx, hxc]; rfl)
      have k4 : wr.cell? ⟨g, off + j * 5 + 4, none⟩ = some (.bool x4) := rf_cell (i := 4) hrw hjf (by omega) (by rw [hx, hxc]; rfl)
      have hss := syncTo_succ hjf
      rw [hx] at hss
      have hxc2 : rfFile { x with named := true } = [.string x0, .string x1, .int .i64 x2, .bool x3, .bool true] := by
        unfold rfFile
        rw [hx0, hx1, hx2, hx3]
      have HSS : Hid (syncTo d.files (j + 1) = syncTo d.files j ++ (if x3 = true then [{ x with named := true }] else [])) := Lib.hid (by rw [hss, hx3])
      have HXC := Lib.hid hxc2
      have hmj : m < N ∨ x3 = false := by
        cases hb : x3
        · exact .inr rfl
        · have h1 := HSS.out
          rw [hb, if_pos rfl] at h1
          have h2 := syncTo_len d.files (j + 1)
          rw [h1, List.length_append, HR.out.len, HN.out] at h2
          exact .inl (by simp only [List.length_cons, List.length_nil] at h2; omega)
      clear hss hxc hxc2 hx hx0 hx1 hx2 hx3 hx4 hrw hp'
      cases x3
      · go_wp2_with fail
        refine ⟨⟨j + 1, m, ol, cl, by omega, by omega, rfl, by simp, Lib.hid ?_⟩, by simp [intOf]; omega⟩
        rw [HSS.out]
        rw [if_neg (by simp), List.append_nil]
        exact HR.out.alloc _
      · have hmN : m < N := by
          rcases hmj with h | h
          · exact h
          · cases h
        clear hmj
        go_upto_region 9 with fail
        obtain ⟨w6, hw6⟩ : ∃ W : World, W = wr.alloc (.cells #[.string x0, .string x1, .int .i64 x2, .bool true, .bool x4] 200) := ⟨_, rfl⟩
        obtain ⟨b7, hb7⟩ : ∃ b, b = wr.heap.size := ⟨_, rfl⟩
        have h6 : w6.heap[b7]? = some (.cells #[.string x0, .string x1, .int .i64 x2, .bool true, .bool x4] 200 (0, 0)) := by rw [hw6, hb7]; exact alloc_cells _ _ _
        have hb6 : Below wr.heap.size wr w6 := by rw [hw6]; exact (Below.refl _ _).alloc (Nat.le_refl _) _
        rw [← hw6, ← hb7]
        have HB7 := Lib.hid (And.intro hb7 hb6)
        have H6 := Lib.hid h6
        have y3 : w6.cell? ⟨b7, 3, none⟩ = some (.bool true) := cell_of h6 rfl
        have y4 : w6.cell? ⟨b7, 4, none⟩ = some (.bool x4) := cell_of h6 rfl
        have f4 : w6.frozen? ⟨b7, 4, none⟩ = false := free_of h6 _
        clear hw6 hb7 h6 hb6 k0 k1 k2 k3 k4 c0 z0
        go_upto_region 11 with fail
        obtain ⟨w7, hw7⟩ : ∃ W : World, W = w6.setCell ⟨b7, 4, none⟩ (.bool true) := ⟨_, rfl⟩
        have h7 : w7.heap[b7]? = some (.cells #[.string x0, .string x1, .int .i64 x2, .bool true, .bool true] 200 (0, 0)) := by rw [hw7]; exact heap_setCell_here _ H6.out
        have hb7 : Below wr.heap.size wr w7 := by rw [hw7]; exact HB7.out.2.setCell (p := ⟨b7, 4, none⟩) (by rw [HB7.out.1]; exact Nat.le_refl _) _
        rw [← hw7]
        have HR7 := Lib.hid (HR.out.kept hb7)
        have y0 : w7.cell? ⟨b7, 0, none⟩ = some (.string x0) := cell_of h7 rfl
        have y1 : w7.cell? ⟨b7, 1, none⟩ = some (.string x1) := cell_of h7 rfl
        have y2 : w7.cell? ⟨b7, 2, none⟩ = some (.int .i64 x2) := cell_of h7 rfl
        have y3 : w7.cell? ⟨b7, 3, none⟩ = some (.bool true) := cell_of h7 rfl
        have y4 : w7.cell? ⟨b7, 4, none⟩ = some (.bool true) := cell_of h7 rfl
        clear hw7 h7 hb7 f4
        go_wp2_with (at_builtin; refine wpList_append_rf (w0 := w2) rfl (.tmp 35) (.tmp 37) rfl (HR7.out.alloc _) (l2 := [{ x with named := true }]) (k := 1) rfl (by show readAt _ 5 _ 1 (rfFile _ ++ []); rw [List.append_nil, HXC.out]; exact (rfive_row w7 _ _ _ _ _).read) (t := m + 1) rfl (by omega) rfl rfl ?_; intro oa9 c9 w9 HR9)
        refine ⟨⟨j + 1, m + 1, oa9, c9, by omega, by omega, rfl, by simp, Lib.hid ?_⟩, by simp [intOf]; omega⟩
        rw [HSS.out, if_pos rfl]
        exact HR9.out
    · obtain rfl : j = N := by omega
      go_wp2_with fail
      go_ret
      exact HD.out _ _ HR.out
end Go.Proofs.Ytmkjejngnahpeaa
/- The document's disk: Remove, New. -/
namespace Go.Proofs.Ytmkjejngnahpeaa
open Go Go.Maps Go.RowKit
open Go.Proofs (encStr)

theorem filter_at {l : List F0} {s : List UInt8} (hs : (l.map (·.name)).Pairwise (· < ·)) {i : Nat} (hi : i < l.length) (hn : l[i].name = s) : (l.filter fun f => f.name != s) = l.take i ++ l.drop (i + 1) := by
  have e : l = l.take i ++ (l[i] :: l.drop (i + 1)) := by rw [← List.drop_eq_getElem_cons hi, List.take_append_drop]
  have hs2 := hs
  rw [e, List.map_append, List.map_cons, List.pairwise_append, List.pairwise_cons] at hs2
  conv => lhs; rw [e]
  rw [List.filter_append, List.filter_cons_of_neg (by simp [hn])]
  congr 1
  · refine List.filter_eq_self.2 fun f hf => ?_
    have := hs2.2.2 f.name (List.mem_map_of_mem hf) l[i].name (by simp)
    simp only [bne_iff_ne, ne_eq]
    intro he
    rw [he, hn] at this
    exact List.lt_irrefl _ this
  · refine List.filter_eq_self.2 fun f hf => ?_
    have := hs2.2.1.1 f.name (List.mem_map_of_mem hf)
    simp only [bne_iff_ne, ne_eq]
    intro he
    rw [he, hn] at this
    exact List.lt_irrefl _ this
theorem extract_take (l : List UInt8) (k : Nat) : (⟨l.toArray⟩ : ByteArray).extract 0 k = ⟨(l.take k).toArray⟩ := by
  apply ByteArray.ext
  simp [ByteArray.data_extract]
theorem run_str_take {P : Program} {t : TypeId} (h : P.underlying t = some .string) (s : ByteArray) (k : Nat) (hk : k ≤ s.size) (W : World) : (Instr.slice t (.string s) none (some (.int .i64 (k : Int))) none).run P W = .ok (.string (s.extract 0 k)) W := by
  simp [Instr.slice, Instr.sliceBounds, Instr.sliceBound, asIntOf, run_underlying h, hk]
/-- a file is written whole: what lasts of it may come back -/
theorem RfIs.file_gone {w : World} {S : Nat → Prop} {p : Nat} {rv fv : Value} {d : Dk} (h : RfIs w S p rv fv d) {i : Nat} (hi : i < d.files.length) {g off N c : Nat} (hrv : rv = .slice (some ⟨g, off, none⟩) N c) {x : F0} (hx : d.files[i] = x) (hn : x.named = true) {x0 y1 : ByteArray} (h0 : x0 = ⟨x.name.toArray⟩) (h1 : y1 = ⟨(x.bytes.take x.lasts).toArray⟩) :
    RfIs (((((w.setCell ⟨g, off + i * 5, none⟩ (.string x0)).setCell ⟨g, off + i * 5 + 1, none⟩ (.string y1)).setCell ⟨g, off + i * 5 + 2, none⟩ (.int .i64 x.lasts)).setCell ⟨g, off + i * 5 + 3, none⟩ (.bool false)).setCell ⟨g, off + i * 5 + 4, none⟩ (.bool true)) S p rv fv { d with files := d.files.set i { x with bytes := x.bytes.take x.lasts, there := false } } := by
  have hsz := h.sizes x (by rw [← hx]; exact List.getElem_mem hi)
  have hlt : (x.bytes.take x.lasts).length = x.lasts := by rw [List.length_take]; omega
  have s1 := h.file_set (i := i) (k := 0) (v := .string x0) (f' := x) hi hrv (by omega) (by rw [hx, h0]; rfl) (by rw [hx]) hsz
  have e1 : (d.files.set i x)[i]'(by simpa using hi) = x := List.getElem_set_self _
  have s2 := s1.file_set (i := i) (k := 1) (v := .string y1) (f' := { x with bytes := x.bytes.take x.lasts }) (by simpa using hi) hrv (by omega) (by simp only [e1]; rw [h1]; rfl) (by simp only [e1]) ⟨by show x.lasts ≤ (x.bytes.take x.lasts).length; omega, by show (x.bytes.take x.lasts).length ≤ _; omega⟩
  have e2 : ((d.files.set i x).set i { x with bytes := x.bytes.take x.lasts })[i]'(by simpa using hi) = { x with bytes := x.bytes.take x.lasts } := List.getElem_set_self _
  have s3 := s2.file_set (i := i) (k := 2) (v := .int .i64 x.lasts) (f' := { x with bytes := x.bytes.take x.lasts }) (by simpa using hi) hrv (by omega) (by simp only [e2]; rfl) (by simp only [e2]) ⟨by show x.lasts ≤ (x.bytes.take x.lasts).length; omega, by show (x.bytes.take x.lasts).length ≤ _; omega⟩
  have e3 : (((d.files.set i x).set i { x with bytes := x.bytes.take x.lasts }).set i { x with bytes := x.bytes.take x.lasts })[i]'(by simpa using hi) = { x with bytes := x.bytes.take x.lasts } := List.getElem_set_self _
  have s4 := s3.file_set (i := i) (k := 3) (v := .bool false) (f' := { x with bytes := x.bytes.take x.lasts, there := false }) (by simpa using hi) hrv (by omega) (by simp only [e3]; rfl) (by simp only [e3]) ⟨by show x.lasts ≤ (x.bytes.take x.lasts).length; omega, by show (x.bytes.take x.lasts).length ≤ _; omega⟩
  have e4 : ((((d.files.set i x).set i { x with bytes := x.bytes.take x.lasts }).set i { x with bytes := x.bytes.take x.lasts }).set i { x with bytes := x.bytes.take x.lasts, there := false })[i]'(by simpa using hi) = { x with bytes := x.bytes.take x.lasts, there := false } := List.getElem_set_self _
  have s5 := s4.file_set (i := i) (k := 4) (v := .bool true) (f' := { x with bytes := x.bytes.take x.lasts, there := false }) (by simpa using hi) hrv (by omega) (by simp only [e4]; show rfFile _ = _; unfold rfFile; simp [hn]) (by simp only [e4]) ⟨by show x.lasts ≤ (x.bytes.take x.lasts).length; omega, by show (x.bytes.take x.lasts).length ≤ _; omega⟩
  simp only [List.set_set, Nat.add_zero, ← Nat.add_assoc] at s5
  exact s5
set_option maxRecDepth 100000 in
set_option maxHeartbeats 2000000 in
theorem refRemove_b {w : World} {S : Nat → Prop} {p : Nat} {d : Dk} (h : RfAt w S p d) (nm : ByteArray) (hs : nm.size ≤ maxLen) :
    Calls Try.prog 60 #[.pointer (some ⟨p, 0, none⟩), .string nm] w fun e w' => ROpIs w S p (d.remove nm.data.toList) e w' := by
  obtain ⟨rv, fv, h⟩ := h
  obtain ⟨s, hss⟩ : ∃ s, nm.data.toList = s := ⟨_, rfl⟩
  have H := Lib.hid h
  have HSS := Lib.hid hss
  clear h
  go_enter Try.func60, Try.ntmps60
  go_wp2_with fail
  refine (refFind_b H.out nm hs).mono ?_
  rintro e w' ⟨hF, hw'⟩
  obtain rfl := hw'.symm
  rw [hss] at hF
  clear hss
  rcases hF with ⟨hn, rfl⟩ | ⟨hn, hf, rfl⟩ | ⟨hn, i, hi, hxn, hxt, hf, rfl⟩
  · have HE : Hid (ROpIs w S p (d.remove s) (.returned (.int .i64 2)) w) := Lib.hid (by
      rw [show d.remove s = (2, d) by simp [Dk.remove, hn]]
      exact rop_same H.out (Only.refl _ _) rfl)
    clear hn
    go_wp2_with fail
    go_ret
    rw [HSS.out]
    exact HE.out
  · have HE : Hid (ROpIs w S p (d.remove s) (.returned (.int .i64 171)) w) := Lib.hid (by
      rw [show d.remove s = (171, d) by simp [Dk.remove, hn, hf]]
      exact rop_same H.out (Only.refl _ _) rfl)
    clear hn hf
    go_wp2_with fail
    go_ret
    rw [HSS.out]
    exact HE.out
  · have HX := Lib.hid (And.intro hn (And.intro hxn (And.intro hxt hf)))
    clear hn hxn hxt hf
    go_wp2_with fail
    refine (refStep_b H.out).mono ?_
    rintro e w2 ⟨kp, fv2, rfl, -, h2, ho2⟩
    obtain ⟨er, her⟩ : ∃ n, d.fate.1 = n := ⟨_, rfl⟩
    rw [her]
    by_cases h0 : er = 0
    case neg =>
      have hne : (er != 0) = true := by simpa using h0
      have HE : Hid (ROpIs w S p (d.remove s) (.returned (.int .i64 er)) w2) := Lib.hid (by
        rw [show d.remove s = (er, d.next) by
          unfold Dk.remove
          rw [if_neg (by rw [HX.out.1]; simp), HX.out.2.2.2]
          show (if _ then _ else _) = _
          rw [if_pos (by rw [her]; exact h0), her]]
        exact rop_same h2 (only_p ho2 H.out.footp) rfl)
      clear h2 ho2 her
      go_wp2_with fail
      go_ret
      rw [HSS.out]
      exact HE.out
    subst h0
    obtain ⟨oa, c, rfl, hnc⟩ := H.out.files.shape
    obtain ⟨N, hN⟩ : ∃ N, d.files.length = N := ⟨_, rfl⟩
    obtain ⟨x, hx⟩ : ∃ x, d.files[i] = x := ⟨_, rfl⟩
    have hN4 : N ≤ 4096 := by rw [← hN]; exact H.out.few
    have hfl : d.next.files = d.files := rfl
    have hrow := h2.files
    rw [hfl, hN] at hrow
    rw [hN] at hnc
    have hiN : i < N := by omega
    have hh2 := h2.head
    rw [hN] at hh2
    have hplt : p < w2.heap.size := h2.low p h2.footp
    obtain ⟨g, off, rfl⟩ := hrow.addr (by omega)
    have hglt : g < w2.heap.size := hrow.lt g rfl
    obtain ⟨x0, hx0⟩ : ∃ a : ByteArray, a = ⟨x.name.toArray⟩ := ⟨_, rfl⟩
    obtain ⟨x1, hx1⟩ : ∃ a : ByteArray, a = ⟨x.bytes.toArray⟩ := ⟨_, rfl⟩
    obtain ⟨la, hla⟩ : ∃ a : Nat, a = x.lasts := ⟨_, rfl⟩
    obtain ⟨x3, hx3⟩ : ∃ a, a = x.there := ⟨_, rfl⟩
    obtain ⟨x4, hx4⟩ : ∃ a, a = x.named := ⟨_, rfl⟩
    have hxc : rfFile x = [.string x0, .string x1, .int .i64 la, .bool x3, .bool x4] := by
      unfold rfFile
      rw [hx0, hx1, hla, hx3, hx4]
    have k0 : w2.cell? ⟨g, off + i * 5, none⟩ = some (.string x0) := rf_cell (i := 0) hrow hi (by omega) (by rw [hx, hxc]; rfl)
    have k1 : w2.cell? ⟨g, off + i * 5 + 1, none⟩ = some (.string x1) := rf_cell (i := 1) hrow hi (by omega) (by rw [hx, hxc]; rfl)
    have k2 : w2.cell? ⟨g, off + i * 5 + 2, none⟩ = some (.int .i64 la) := rf_cell (i := 2) hrow hi (by omega) (by rw [hx, hxc]; rfl)
    have k3 : w2.cell? ⟨g, off + i * 5 + 3, none⟩ = some (.bool x3) := rf_cell (i := 3) hrow hi (by omega) (by rw [hx, hxc]; rfl)
    have k4 : w2.cell? ⟨g, off + i * 5 + 4, none⟩ = some (.bool x4) := rf_cell (i := 4) hrow hi (by omega) (by rw [hx, hxc]; rfl)
    have c0 : w2.cell? ⟨p, 0, none⟩ = some (.slice (some ⟨g, off, none⟩) N c) := cell_of hh2 rfl
    have hsz := h2.sizes x (by rw [hfl, ← hx]; exact List.getElem_mem hi)
    have HH2 := Lib.hid (And.intro hh2 (And.intro hrow (And.intro hplt hglt)))
    have HN := Lib.hid hN
    have HX2 := Lib.hid (And.intro hx (And.intro hxc (And.intro hx1 (And.intro hla (And.intro hsz (And.intro hx0 hx4))))))
    have H2 := Lib.hid (And.intro h2 (And.intro ho2 her))
    clear hrow hh2 hx hxc hx0 hx1 hla hx3 hx4 hsz h2 ho2 her hN hfl
    go_upto_region 8 with fail
    obtain ⟨w3, hw3⟩ : ∃ W : World, W = w2.alloc (.cells #[.string x0, .string x1, .int .i64 la, .bool x3, .bool x4] 200) := ⟨_, rfl⟩
    obtain ⟨b9, hb9⟩ : ∃ b, b = w2.heap.size := ⟨_, rfl⟩
    have h3 : w3.heap[b9]? = some (.cells #[.string x0, .string x1, .int .i64 la, .bool x3, .bool x4] 200 (0, 0)) := by rw [hw3, hb9]; exact alloc_cells _ _ _
    have hb3 : Below w2.heap.size w2 w3 := by rw [hw3]; exact (Below.refl _ _).alloc (Nat.le_refl _) _
    rw [← hw3, ← hb9]
    have H3 := Lib.hid (And.intro hb9 hb3)
    have hrow3 := HH2.out.2.1.kept (fun k hk => hb3.block k (HH2.out.2.1.lt k hk))
    have c03 : w3.cell? ⟨p, 0, none⟩ = some (.slice (some ⟨g, off, none⟩) N c) := cell_of ((hb3.block p HH2.out.2.2.1).trans HH2.out.1) rfl
    have y0 : w3.cell? ⟨b9, 0, none⟩ = some (.string x0) := cell_of h3 rfl
    have y1 : w3.cell? ⟨b9, 1, none⟩ = some (.string x1) := cell_of h3 rfl
    have y2 : w3.cell? ⟨b9, 2, none⟩ = some (.int .i64 la) := cell_of h3 rfl
    have y4 : w3.cell? ⟨b9, 4, none⟩ = some (.bool x4) := cell_of h3 rfl
    have HR3 := Lib.hid hrow3
    clear hw3 hb9 h3 hb3 hrow3 k0 k1 k2 k3 k4 c0
    cases x4
    · have HD : Hid (∀ (w5 : World) (v' : Value), NewRow w3 w5 v' (d.files.take i ++ d.files.drop (i + 1)) → ROpIs w S p (d.remove s) (.returned (.int .i64 0)) (w5.setCell ⟨p, 0, none⟩ v')) := Lib.hid (fun w5 v' hr => by
        obtain ⟨h2, ho2, her⟩ := H2.out
        obtain ⟨hx, -, -, -, -, -, hx4⟩ := HX2.out
        have hfa : (d.files.filter fun f => f.name != s) = d.files.take i ++ d.files.drop (i + 1) := filter_at h2.sorted (i := i) hi HX.out.2.1
        have hde : d.remove s = (0, { d.next with files := d.files.filter fun f => f.name != s }) := by
          unfold Dk.remove
          rw [if_neg (by rw [HX.out.1]; simp), HX.out.2.2.2, hx]
          show (if _ then _ else if _ then _ else _) = _
          rw [if_neg (by rw [her]; simp), if_neg (by rw [← hx4]; simp)]
        have hsub : (d.files.filter fun f => f.name != s).Sublist d.files := List.filter_sublist
        rw [← hfa] at hr
        rw [hde]
        exact rf_store (h2.below H3.out.2) (ho2.trans (Only.of_below H3.out.2 (Nat.le_refl _) _) (fun _ _ h => h)) hr (h2.sorted.sublist (hsub.map _)) (fun f hf => h2.names f (hsub.subset hf)) (fun f hf => h2.sizes f (hsub.subset hf)) (by have := hsub.length_le; have := HN.out; omega) 0)
      have hz := add_zero_map (some (⟨g, off, none⟩ : Addr))
      have hsl1 := fun W => rtake_run (n := N) i (by omega : i ≤ c) hz W
      have hsl2 := fun W => rdrop_run (some (⟨g, off, none⟩ : Addr)) N c (i + 1) (by omega) W
      have hcast : ((i + 1 : Nat) : Int) = (i : Int) + 1 := by omega
      simp only [hcast] at hsl2
      obtain ⟨od, hod⟩ : ∃ od : Option Addr, od = if c = i + 1 then some ⟨g, off, none⟩ else (some (⟨g, off, none⟩ : Addr)).map (·.add ((i + 1) * 5)) := ⟨_, rfl⟩
      rw [← hod] at hsl2
      have HOD := Lib.hid hod
      have hp3 : p < w3.heap.size := Nat.lt_of_lt_of_le hplt H3.out.2.size
      have HP3 := Lib.hid ((H3.out.2.block p hplt).trans HH2.out.1)
      clear hod hz hcast
      go_wp2_with (at_builtin; first | (refine wpList_append_rf (w0 := w3) rfl (.tmp 53) (.tmp 59) rfl (NewRow.nil (Below.refl _ _)) (l2 := d.files.take i) (k := i) (by rw [List.length_take, HN.out]; omega) (rowAt.files_take HR3.out (by omega)) (t := i) (by omega) (by omega) rfl rfl ?_; intro oa4 c4 w4 HL1; have hp4 := (HL1.out.below.block p hp3).trans HP3.out; have c04 : w4.cell? ⟨p, 0, none⟩ = some (.slice (some ⟨g, off, none⟩) N c) := cell_of hp4 rfl; clear hp4) | (refine wpList_append_rf (w0 := w3) rfl (.tmp 62) (.tmp 69) rfl HL1.out (l2 := d.files.drop (i + 1)) (k := N - (i + 1)) (by rw [List.length_drop, HN.out]) (by rw [HOD.out]; exact rowAt.files_drop (HR3.out.kept (fun k hk => HL1.out.below.block k (HR3.out.lt k hk))) (by omega)) (t := N - 1) (by omega) (by omega) rfl rfl ?_; intro oa5 c5 w5 HL3; have hp5 := (HL3.out.below.block p hp3).trans HP3.out; have c05 : w5.cell? ⟨p, 0, none⟩ = some (.slice (some ⟨g, off, none⟩) N c) := cell_of hp5 rfl; have z05 : w5.frozen? ⟨p, 0, none⟩ = false := free_of hp5 _; clear hp5))
      go_ret
      rw [HSS.out]
      refine HD.out _ _ ?_
      have h9 := HL3.out
      simp only [List.nil_append] at h9
      exact h9
    · have HD : Hid (∀ W, W = (((((w3.setCell ⟨g, off + i * 5, none⟩ (.string x0)).setCell ⟨g, off + i * 5 + 1, none⟩ (.string (x1.extract 0 la))).setCell ⟨g, off + i * 5 + 2, none⟩ (.int .i64 la)).setCell ⟨g, off + i * 5 + 3, none⟩ (.bool false)).setCell ⟨g, off + i * 5 + 4, none⟩ (.bool true)).drew → ROpIs w S p (d.remove s) (.returned (.int .i64 0)) W) := Lib.hid (fun W hW => by
        obtain ⟨h2, ho2, her⟩ := H2.out
        obtain ⟨hx, hxc, hx1, hla, hsz, hx0, hx4⟩ := HX2.out
        have hde : d.remove s = (0, { d.next with files := d.files.set i { x with bytes := x.bytes.take x.lasts, there := false } }) := by
          unfold Dk.remove
          rw [if_neg (by rw [HX.out.1]; simp), HX.out.2.2.2, hx]
          show (if _ then _ else if _ then _ else _) = _
          rw [if_neg (by rw [her]; simp), if_pos hx4.symm]
          have ht := turn_set (l := d.files) h2.sorted (i := i) hi HX.out.2.1 (fun f => { f with bytes := f.bytes.take f.lasts, there := false })
          rw [hx] at ht
          show (0, ({ files := d.files.map _, fates := _, steps := _ } : Dk)) = _
          rw [ht]
        have h3 := (h2.below H3.out.2).file_gone (i := i) (x := x) hi rfl hx hx4.symm hx0 (y1 := x1.extract 0 la) (by rw [hx1, hla, extract_take])
        rw [← hla] at h3
        have ho3 : ∀ (W : World) (k : Nat) (v : Value), Only (fun j => j = g) W (W.setCell ⟨g, k, none⟩ v) := fun W k v => only_setCell (fun j => j = g) _ _ _ _ rfl
        have hog : Only (fun j => j = g) w3 (((((w3.setCell ⟨g, off + i * 5, none⟩ (.string x0)).setCell ⟨g, off + i * 5 + 1, none⟩ (.string (x1.extract 0 la))).setCell ⟨g, off + i * 5 + 2, none⟩ (.int .i64 la)).setCell ⟨g, off + i * 5 + 3, none⟩ (.bool false)).setCell ⟨g, off + i * 5 + 4, none⟩ (.bool true)) :=
          ((((ho3 _ _ _).trans (ho3 _ _ _) (fun _ _ h => h)).trans (ho3 _ _ _) (fun _ _ h => h)).trans (ho3 _ _ _) (fun _ _ h => h)).trans (ho3 _ _ _) (fun _ _ h => h)
        rw [hde, hW]
        refine rop_same h3.drew (only_drew ?_) (by rw [hla]; rfl)
        exact ((only_p ho2 H.out.footp).trans (Only.of_below H3.out.2 (Nat.le_refl _) S) (fun _ _ h => h)).trans (only_r (v := .slice (some ⟨g, off, none⟩) d.files.length c) (g := g) hog rfl H.out.footr) (fun _ _ h => h))
      have hle : la ≤ x1.size := by
        have := HX2.out
        rw [this.2.2.1]
        have h5 := this.2.2.2.2.1
        have h6 := this.2.2.2.1
        simp [ByteArray.size]
        omega
      have hsl : ∀ W : World, (Instr.slice 9 (.string x1) none (some (.int .i64 (la : Int))) none).run Try.prog W = .ok (.string (x1.extract 0 la)) W := run_str_take Try.underlying9 x1 la hle
      obtain ⟨yb, hyb⟩ : ∃ b, b = x1.extract 0 la := ⟨_, rfl⟩
      have HX3 : Hid (rfFile x = [.string x0, .string x1, .int .i64 la, .bool x3, .bool true]) := Lib.hid HX2.out.2.1
      have k0 : w3.cell? ⟨g, off + i * 5, none⟩ = some (.string x0) := rf_cell (i := 0) HR3.out hi (by omega) (by rw [HX2.out.1, HX3.out]; rfl)
      have k1 : w3.cell? ⟨g, off + i * 5 + 1, none⟩ = some (.string x1) := rf_cell (i := 1) HR3.out hi (by omega) (by rw [HX2.out.1, HX3.out]; rfl)
      have k2 : w3.cell? ⟨g, off + i * 5 + 2, none⟩ = some (.int .i64 la) := rf_cell (i := 2) HR3.out hi (by omega) (by rw [HX2.out.1, HX3.out]; rfl)
      have k3 : w3.cell? ⟨g, off + i * 5 + 3, none⟩ = some (.bool x3) := rf_cell (i := 3) HR3.out hi (by omega) (by rw [HX2.out.1, HX3.out]; rfl)
      have k4 : w3.cell? ⟨g, off + i * 5 + 4, none⟩ = some (.bool true) := rf_cell (i := 4) HR3.out hi (by omega) (by rw [HX2.out.1, HX3.out]; rfl)
      have z0 : w3.frozen? ⟨g, off + i * 5, none⟩ = false := HR3.out.freeAt (j := i * 5) (by omega)
      have z1 : w3.frozen? ⟨g, off + i * 5 + 1, none⟩ = false := by have := HR3.out.freeAt (j := i * 5 + 1) (by omega); rwa [← Nat.add_assoc] at this
      have z2 : w3.frozen? ⟨g, off + i * 5 + 2, none⟩ = false := by have := HR3.out.freeAt (j := i * 5 + 2) (by omega); rwa [← Nat.add_assoc] at this
      have z3 : w3.frozen? ⟨g, off + i * 5 + 3, none⟩ = false := by have := HR3.out.freeAt (j := i * 5 + 3) (by omega); rwa [← Nat.add_assoc] at this
      have z4 : w3.frozen? ⟨g, off + i * 5 + 4, none⟩ = false := by have := HR3.out.freeAt (j := i * 5 + 4) (by omega); rwa [← Nat.add_assoc] at this
      rw [← hyb] at hsl HD
      clear hyb hle
      go_wp2_with fail
      go_region
      go_wp2_with fail
      go_ret
      rw [HSS.out]
      exact HD.out _ rfl
set_option maxRecDepth 100000 in
set_option maxHeartbeats 1000000 in
theorem refNew_b {w : World} {oa : Option Addr} {n c : Nat} {fs : List (Int × Int)} (hn : fs.length = n) (h : readAt w 2 (.slice oa n c) n (fateCells fs)) (hm : n ≤ 1000000) :
    Calls Try.prog 53 #[.slice oa n c] w fun e w' => ∃ p, e = .returned (.pointer (some ⟨p, 0, none⟩)) ∧ RfAt w' (Can w.heap.size w') p ⟨[], fs, 0⟩ ∧ Below w.heap.size w w' := by
  have HR := Lib.hid h
  have HN := Lib.hid hn
  clear h hn
  go_enter Try.func53, Try.ntmps53
  go_wp2_with (at_builtin; refine wpList_append_at _ rfl (.const (.slice none 0 0)) (.tmp 3) 65 65 rfl 99 (.agg #[.int .i64 0, .int .i64 0]) 2 16 Try.underlying65 info_fate rfl _ 0 [] rfl ⟨rfl, .inl ⟨rfl, rfl⟩⟩ _ n _ rfl (Src.of_read Try.underlying65 HR.out (fateCells_one fs)) (by unfold maxLen; omega) (by omega) ?_; intro v' w3 hr hg hown _; rw [Nat.zero_add] at hr; obtain ⟨oa', c', rfl, _⟩ := hr.shape; have HRW := Lib.hid (And.intro hr (And.intro hg hown)); clear hr hg hown)
  go_ret
  obtain ⟨hr, hg0, hown0⟩ := HRW.out
  have hg : w.grownBy w3 none := hg0
  have hown : (Value.slice oa' n c').ownBlock = none ∨ (Value.slice oa' n c').ownBlock = some w.heap.size := hown0
  rw [List.nil_append] at hr
  have hb3 : Below w.heap.size w w3 := (Below.refl _ _).grown hg (Nat.le_refl _) (fun k e => by cases e)
  have hb4 : Below w3.heap.size w3 (w3.alloc (.cells #[.slice none 0 0, .slice oa' n c', .int .i64 0] 198)) := (Below.refl _ _).alloc (Nat.le_refl _) _
  refine ⟨w3.heap.size, rfl, ⟨.slice none 0 0, .slice oa' n c', ?_⟩, hb3.trans (hb4.mono hb3.size)⟩
  have hsz := hb3.size
  exact {
    head := alloc_cells _ _ _
    files := ⟨rfl, .inl ⟨rfl, rfl⟩⟩
    fates := by
      show rowAt _ _ 2 (.slice oa' n c') fs.length _
      rw [HN.out]
      exact hr.kept (fun k hk => hb4.block k (hr.lt k hk))
    footp := ⟨hsz, by simp⟩
    footr := fun k hk => by simp [Value.ownBlock] at hk
    footf := fun k hk => ⟨by
      rcases hown with h1 | h1
      · rw [hk] at h1; cases h1
      · rw [hk] at h1; simp only [Option.some.injEq] at h1; omega, by have := hr.lt k hk; simp; omega⟩
    low := fun k hk => hk.2
    sorted := List.Pairwise.nil
    names := fun f hf => by cases hf
    sizes := fun f hf => by cases hf
    few := by show (0 : Nat) ≤ 4096; omega }
end Go.Proofs.Ytmkjejngnahpeaa
/- law08: the same calls on the program's disk and on the document's (printed by genij.py). -/
namespace Go.Proofs.Ytmkjejngnahpeaa
open Go Go.Maps Go.RowKit

structure OpT where
  kind : Int
  name : ByteArray
  bytes : List UInt8
  bv : Value
def OpT.cells (x : OpT) : List Value := [.int .i64 x.kind, .string x.name, x.bv]
structure OpOk (w : World) (x : OpT) : Prop where
  name : x.name.size ≤ maxLen
  bytes : readAt w 1 x.bv x.bytes.length (byteCells x.bytes)
theorem OpOk.below {w w' : World} {x : OpT} (h : OpOk w x) (hb : Below w.heap.size w w') : OpOk w' x :=
  ⟨h.name, h.bytes.kept (fun k hl _ _ => hb.block k hl)⟩
def opsCells (l : List OpT) : List Value := l.flatMap OpT.cells
theorem opsCells_length : ∀ l : List OpT, (opsCells l).length = l.length * 3
  | [] => rfl
  | f :: r => by
    have : opsCells (f :: r) = f.cells ++ opsCells r := rfl
    rw [this, List.length_append, opsCells_length r]
    simp [OpT.cells]
    omega
theorem opsCells_get : ∀ {l : List OpT} {j i : Nat} (hj : j < l.length) (_ : i < 3), (opsCells l)[j * 3 + i]? = (l[j].cells)[i]?
  | f :: r, 0, i, _, hi => by
    have : opsCells (f :: r) = f.cells ++ opsCells r := rfl
    rw [this, List.getElem?_append_left (by simp [OpT.cells]; omega)]
    simp
  | f :: r, j + 1, i, hj, hi => by
    have : opsCells (f :: r) = f.cells ++ opsCells r := rfl
    have h5 : f.cells.length = 3 := by simp [OpT.cells]
    rw [this, List.getElem?_append_right (by omega), h5, show (j + 1) * 3 + i - 3 = j * 3 + i by omega, opsCells_get (by simpa using hj) hi]
    simp
/-- v is a list of these calls -/
structure OpsAt (w : World) (v : Value) (l : List OpT) : Prop where
  row : readAt w 3 v l.length (opsCells l)
  each : ∀ x ∈ l, OpOk w x
theorem OpsAt.below {w w' : World} {v : Value} {l : List OpT} (h : OpsAt w v l) (hb : Below w.heap.size w w') : OpsAt w' v l :=
  ⟨h.row.kept (fun k hl _ _ => hb.block k hl), fun x hx => (h.each x hx).below hb⟩
def Dk.opT (d : Dk) (x : OpT) : Dk :=
  if x.kind = 1 then (d.create x.name.data.toList).2
  else if x.kind = 2 then (d.append x.name.data.toList x.bytes).2
  else if x.kind = 3 then (d.sync x.name.data.toList).2
  else if x.kind = 4 then d.syncdir.2
  else if x.kind = 5 then (d.remove x.name.data.toList).2
  else d
def Dk.opsT (d : Dk) (l : List OpT) : Dk := l.foldl Dk.opT d
theorem opsT_succ {d : Dk} {l : List OpT} {j : Nat} (hj : j < l.length) : d.opsT (l.take (j + 1)) = (d.opsT (l.take j)).opT l[j] := by
  unfold Dk.opsT
  rw [List.take_succ_eq_append_getElem hj, List.foldl_append]
  rfl
theorem DiskAt.only2 {w w' : World} {S T : Nat → Prop} {q : Nat} {d : Dk} (h : DiskAt w S q d) (ho : Only T w w') (hT : ∀ k, S k → ¬ T k) : DiskAt w' S q d := by
  obtain ⟨mb, fv, L, h⟩ := h
  exact ⟨mb, fv, L, h.only ho hT⟩
theorem DiskAt.low2 {w : World} {S : Nat → Prop} {q : Nat} {d : Dk} (h : DiskAt w S q d) : ∀ k, S k → k < w.heap.size := by
  obtain ⟨mb, fv, L, h⟩ := h
  exact h.low
theorem RfAt.only {w w' : World} {S T : Nat → Prop} {p : Nat} {d : Dk} (h : RfAt w S p d) (ho : Only T w w') (hT : ∀ k, S k → ¬ T k) : RfAt w' S p d := by
  obtain ⟨rv, fv, h⟩ := h
  exact ⟨rv, fv, h.only ho hT⟩
theorem RfAt.below {w w' : World} {S : Nat → Prop} {p : Nat} {d : Dk} (h : RfAt w S p d) (hb : Below w.heap.size w w') : RfAt w' S p d := by
  obtain ⟨rv, fv, h⟩ := h
  exact ⟨rv, fv, h.below hb⟩
theorem RfAt.low {w : World} {S : Nat → Prop} {p : Nat} {d : Dk} (h : RfAt w S p d) : ∀ k, S k → k < w.heap.size := by
  obtain ⟨rv, fv, h⟩ := h
  exact h.low
/-- both disks lie there, apart, in blocks that are new since w -/
structure TwoS (w W : World) (S1 S2 : Nat → Prop) (q p : Nat) (d : Dk) : Prop where
  one : DiskAt W S1 q d
  two : RfAt W S2 p d
  apart : ∀ k, S1 k → ¬ S2 k
  new1 : ∀ k, S1 k → w.heap.size ≤ k
  new2 : ∀ k, S2 k → w.heap.size ≤ k
  below : Below w.heap.size w W
def TwoI (w W : World) (q p : Nat) (d : Dk) : Prop := ∃ S1 S2, TwoS w W S1 S2 q p d
theorem TwoS.grown {w W W' : World} {S1 S2 : Nat → Prop} {q p : Nat} {d : Dk} (h : TwoS w W S1 S2 q p d) (hb : Below W.heap.size W W') : TwoS w W' S1 S2 q p d :=
  ⟨h.one.below hb, h.two.below hb, h.apart, h.new1, h.new2, h.below.trans (hb.mono h.below.size)⟩
theorem TwoS.mid {w W W1 : World} {S1 S2 : Nat → Prop} {q p : Nat} {d : Dk} {r : Int × Dk} {e : Ending} (h : TwoS w W S1 S2 q p d) (h1 : OpIs W S1 q r e W1) : RfAt W1 S2 p d := h.two.only h1.2.2 (fun k h2 h3 => h.apart k h3 h2)
theorem TwoS.next {w W W1 W2 : World} {S1 S2 : Nat → Prop} {q p : Nat} {d d' : Dk} {n n' : Int} {e e' : Ending} (h : TwoS w W S1 S2 q p d) (h1 : OpIs W S1 q (n, d') e W1) (h2 : ROpIs W1 S2 p (n', d') e' W2) : TwoI w W2 q p d' := by
  have hsz := h.below.size
  have hs1 := h1.2.2.size
  have hs2 := h2.2.2.size
  have hd1 : ∀ k, Wid S1 W W1 k → ¬ S2 k := fun k hk h3 => by
    rcases hk with hk | hk
    · exact h.apart k hk h3
    · have := h.two.low k h3
      omega
  refine ⟨Wid S1 W W1, Wid S2 W1 W2, h1.2.1.only2 h2.2.2 hd1, h2.2.1, fun k hk h3 => ?_, fun k hk => ?_, fun k hk => ?_, ?_⟩
  · rcases h3 with h3 | h3
    · exact hd1 k hk h3
    · have := h1.2.1.low2 k hk
      omega
  · rcases hk with hk | hk
    · exact h.new1 k hk
    · omega
  · rcases hk with hk | hk
    · exact h.new2 k hk
    · omega
  · have b1 : Below w.heap.size W W1 := h1.2.2.below (fun i hi hs => by have := h.new1 i hs; omega) hsz
    have b2 : Below w.heap.size W1 W2 := h2.2.2.below (fun i hi hs => by have := h.new2 i hs; omega) (by omega)
    exact h.below.trans (b1.trans b2)
set_option maxRecDepth 100000 in
set_option maxHeartbeats 4000000 in
theorem both_b {w : World} {v : Value} {l : List OpT} (hs : OpsAt w v l) (hll : l.length ≤ 100) (hlx : ∀ x ∈ l, x.bytes.length ≤ 2000) :
    Calls Try.prog 72 #[v] w fun e w' => ∃ q p, e = .returned (.tuple #[.pointer (some ⟨q, 0, none⟩), .pointer (some ⟨p, 0, none⟩)]) ∧ TwoI w w' q p (Dk.opsT ⟨[], [], 0⟩ l) := by
  obtain ⟨ob, cb, rfl⟩ := hs.row.shape
  obtain ⟨n, hn⟩ : ∃ n, l.length = n := ⟨_, rfl⟩
  rw [hn] at hs hll ⊢
  have HS := Lib.hid hs
  have HN := Lib.hid hn
  have HLX := Lib.hid hlx
  clear hs hn hlx
  have hnil : ∀ W : World, readAt W 2 (.slice none 0 0) 0 (fateCells []) := fun W => ⟨rfl, .inl ⟨rfl, none, 0, rfl, fun _ => rfl⟩⟩
  have HNIL := Lib.hid hnil
  clear hnil
  go_enter Try.func72, Try.ntmps72
  go_wp2_with fail
  refine (newF_b (l := []) (n := 0) rfl (HNIL.out w) (Nat.zero_le _) rfl).mono ?_
  rintro e w1 ⟨q, rfl, hd1, hb1⟩
  have HD1 := Lib.hid (And.intro hd1 hb1)
  clear hd1 hb1
  go_wp2_with fail
  refine (refNew_b (fs := []) (n := 0) rfl (HNIL.out w1) (Nat.zero_le _)).mono ?_
  rintro e w2 ⟨p, rfl, hr2, hb2⟩
  have HI0 : Hid (TwoI w w2 q p ⟨[], [], 0⟩) := Lib.hid ⟨_, _, HD1.out.1.below hb2, hr2, fun k h1 h2 => by have := h1.2; have := h2.1; omega, fun k h1 => h1.1, fun k h1 => Nat.le_trans HD1.out.2.size h1.1, HD1.out.2.trans (hb2.mono HD1.out.2.size)⟩
  clear hr2 hb2
  go_wp2_with fail
  go_loopw [7] (fun i wr => ∃ (j : Nat), j ≤ n ∧ i = .int .i64 j ∧ Hid (TwoI w wr q p (Dk.opsT ⟨[], [], 0⟩ (l.take j)))) (fun i wr => n - (intOf i).toNat)
  case atStart => exact ⟨0, Nat.zero_le _, rfl, HI0⟩
  case round =>
    obtain ⟨j, hj, rfl, HI⟩ := hrel
    obtain ⟨d, hd⟩ : ∃ d, Dk.opsT ⟨[], [], 0⟩ (l.take j) = d := ⟨_, rfl⟩
    rw [hd] at HI
    by_cases hlt : j < n
    · have hjl : j < l.length := by rw [HN.out]; exact hlt
      obtain ⟨x, hx⟩ : ∃ x, l[j] = x := ⟨_, rfl⟩
      have hxl : x ∈ l := by rw [← hx]; exact List.getElem_mem _
      have HPT : Hid (Dk.opsT ⟨[], [], 0⟩ (l.take (j + 1)) = d.opT x) := Lib.hid (by rw [opsT_succ hjl, hd, hx])
      obtain ⟨S1, S2, hI⟩ := HI.out
      have hsr := HS.out.below hI.below
      have hok := hsr.each x hxl
      have hrow : readAt wr 3 (.slice ob n cb) n (opsCells l) := by have := hsr.row; rwa [HN.out] at this
      obtain ⟨g, off, rfl⟩ := hrow.addr (by omega)
      have hcell : ∀ i, i < 3 → ∀ u, x.cells[i]? = some u → wr.cell? ⟨g, off + (j * 3 + i), none⟩ = some u := fun i hi u hu => hrow.cellAt (by rw [opsCells_get hjl hi, hx, hu])
      obtain ⟨oB, cB, hbv⟩ := hok.bytes.shape
      obtain ⟨kd, hkd⟩ : ∃ k, x.kind = k := ⟨_, rfl⟩
      obtain ⟨lb, hlb⟩ : ∃ k, x.bytes.length = k := ⟨_, rfl⟩
      rw [hlb] at hbv
      have k0 : wr.cell? ⟨g, off + j * 3, none⟩ = some (.int .i64 kd) := hcell 0 (by omega) _ (by rw [← hkd]; rfl)
      have k1 : wr.cell? ⟨g, off + j * 3 + 1, none⟩ = some (.string x.name) := hcell 1 (by omega) _ rfl
      have k2 : wr.cell? ⟨g, off + j * 3 + 2, none⟩ = some (.slice oB lb cB) := hcell 2 (by omega) _ (by rw [← hbv]; rfl)
      obtain ⟨w2, hw2⟩ : ∃ w2 : World, w2 = wr.alloc (.cells #[.int .i64 kd, .string x.name, .slice oB lb cB] 204) := ⟨_, rfl⟩
      obtain ⟨b8, hb8⟩ : ∃ b, b = wr.heap.size := ⟨_, rfl⟩
      have hc2 : w2.heap[b8]? = some (.cells #[.int .i64 kd, .string x.name, .slice oB lb cB] 204 (0, 0)) := by rw [hw2, hb8]; exact alloc_cells _ _ _
      have hb2 : Below wr.heap.size wr w2 := by rw [hw2]; exact (Below.refl _ _).alloc (Nat.le_refl _) _
      have HX := Lib.hid (And.intro hbv (And.intro hlb (And.intro hkd hxl)))
      have HLB : Hid (lb ≤ 2000) := Lib.hid (by rw [← hlb]; exact HLX.out x hxl)
      have HI2 := Lib.hid (hI.grown hb2)
      have HOK : Hid (x.name.size ≤ maxLen ∧ readAt w2 1 (.slice oB x.bytes.length cB) x.bytes.length (byteCells x.bytes)) := Lib.hid ⟨hok.name, by have := (hok.below hb2).bytes; rw [hbv, ← hlb] at this; exact this⟩
      have HNS : Hid (∀ k, (Value.slice oB x.bytes.length cB).ownBlock = some k → 0 < x.bytes.length → k < w.heap.size) := Lib.hid (fun k hk h0 => (HS.out.each x hxl).bytes.lt h0 k (by rw [hbv]; rw [hlb] at hk; exact hk))
      have HB8 : Hid ((∀ k, S1 k → k ≠ b8) ∧ b8 < w2.heap.size) := Lib.hid ⟨fun k hk => by have := hI.one.low2 k hk; omega, (Array.getElem?_eq_some_iff.1 hc2).1⟩
      have HC2 := Lib.hid hc2
      clear hx hxl hsr hok hrow hcell hbv hkd hlb hb2 hd hI HI
      go_upto_region 7 with fail
      rw [← hw2, ← hb8]
      have c0 : w2.cell? ⟨b8, 0, none⟩ = some (.int .i64 kd) := cell_of hc2 rfl
      have c1 : w2.cell? ⟨b8, 1, none⟩ = some (.string x.name) := cell_of hc2 rfl
      have c2 : w2.cell? ⟨b8, 2, none⟩ = some (.slice oB lb cB) := cell_of hc2 rfl
      clear hw2 hb8 hc2 k0 k1 k2
      have HFIN : Hid (∀ wx : World, TwoI w wx q p (d.opT x) → Hid (TwoI w wx q p (Dk.opsT ⟨[], [], 0⟩ (l.take (j + 1))))) := Lib.hid (fun wx h1 => Lib.hid (by rw [HPT.out]; exact h1))
      by_cases hkk : kd = 1 ∨ kd = 2 ∨ kd = 3 ∨ kd = 4 ∨ kd = 5
      · rcases hkk with rfl | rfl | rfl | rfl | rfl
        · have HDT : Hid (d.opT x = (d.create x.name.data.toList).2) := Lib.hid (by unfold Dk.opT; rw [HX.out.2.2.1]; rfl)
          go_wp2_with fail
          refine (create_b HI2.out.one x.name HOK.out.1).mono ?_
          rintro e w3 ho
          obtain rfl := ho.1
          have hm := HI2.out.mid ho
          have hc3 := (ho.2.2.block b8 HB8.out.2 (fun h => HB8.out.1 b8 h rfl)).trans HC2.out
          have c0' : w3.cell? ⟨b8, 0, none⟩ = some (.int .i64 1) := cell_of hc3 rfl
          have c1' : w3.cell? ⟨b8, 1, none⟩ = some (.string x.name) := cell_of hc3 rfl
          have c2' : w3.cell? ⟨b8, 2, none⟩ = some (.slice oB lb cB) := cell_of hc3 rfl
          have HRC := Lib.hid (refCreate_b hm x.name HOK.out.1)
          have HO := Lib.hid ho
          clear ho hm hc3
          go_wp2_with fail
          refine (HRC.out).mono ?_
          rintro e w4 ho4
          obtain rfl := ho4.1
          have HIN := HFIN.out _ (by rw [HDT.out]; exact HI2.out.next HO.out ho4)
          clear ho4
          go_wp2_with fail
          exact ⟨⟨j + 1, by omega, by simp, HIN⟩, by simp [intOf]; omega⟩
        · have HDT : Hid (d.opT x = (d.append x.name.data.toList x.bytes).2) := Lib.hid (by unfold Dk.opT; rw [HX.out.2.2.1]; rfl)
          have HAP := Lib.hid (append_b HI2.out.one x.name HOK.out.1 oB cB x.bytes HOK.out.2 (fun k hk h0 hc => by have := HNS.out k hk h0; have := HI2.out.new1 k hc; omega) (by rw [HX.out.2.1]; have := HLB.out; omega))
          rw [HX.out.2.1] at HAP
          go_wp2_with fail
          refine (HAP.out).mono ?_
          rintro e w3 ho
          obtain rfl := ho.1
          have hm := HI2.out.mid ho
          have hc3 := (ho.2.2.block b8 HB8.out.2 (fun h => HB8.out.1 b8 h rfl)).trans HC2.out
          have c0' : w3.cell? ⟨b8, 0, none⟩ = some (.int .i64 2) := cell_of hc3 rfl
          have c1' : w3.cell? ⟨b8, 1, none⟩ = some (.string x.name) := cell_of hc3 rfl
          have c2' : w3.cell? ⟨b8, 2, none⟩ = some (.slice oB lb cB) := cell_of hc3 rfl
          have hrb : readAt w3 1 (.slice oB x.bytes.length cB) x.bytes.length (byteCells x.bytes) := HOK.out.2.kept (fun k hk hk2 h0 => ho.2.2.block k hk (fun hc => by have := HNS.out k hk2 h0; have := HI2.out.new1 k hc; omega))
          have HRC := Lib.hid (refAppend_b hm x.name HOK.out.1 oB cB x.bytes hrb (fun k hk h0 hc => by have := HNS.out k hk h0; have := HI2.out.new2 k hc; omega))
          rw [HX.out.2.1] at HRC
          have HO := Lib.hid ho
          clear ho hm hc3 hrb
          go_wp2_with fail
          refine (HRC.out).mono ?_
          rintro e w4 ho4
          obtain rfl := ho4.1
          have HIN := HFIN.out _ (by rw [HDT.out]; exact HI2.out.next HO.out ho4)
          clear ho4
          go_wp2_with fail
          exact ⟨⟨j + 1, by omega, by simp, HIN⟩, by simp [intOf]; omega⟩
        · have HDT : Hid (d.opT x = (d.sync x.name.data.toList).2) := Lib.hid (by unfold Dk.opT; rw [HX.out.2.2.1]; rfl)
          go_wp2_with fail
          refine (sync_b HI2.out.one x.name HOK.out.1).mono ?_
          rintro e w3 ho
          obtain rfl := ho.1
          have hm := HI2.out.mid ho
          have hc3 := (ho.2.2.block b8 HB8.out.2 (fun h => HB8.out.1 b8 h rfl)).trans HC2.out
          have c0' : w3.cell? ⟨b8, 0, none⟩ = some (.int .i64 3) := cell_of hc3 rfl
          have c1' : w3.cell? ⟨b8, 1, none⟩ = some (.string x.name) := cell_of hc3 rfl
          have c2' : w3.cell? ⟨b8, 2, none⟩ = some (.slice oB lb cB) := cell_of hc3 rfl
          have HRC := Lib.hid (refSync_b hm x.name HOK.out.1)
          have HO := Lib.hid ho
          clear ho hm hc3
          go_wp2_with fail
          refine (HRC.out).mono ?_
          rintro e w4 ho4
          obtain rfl := ho4.1
          have HIN := HFIN.out _ (by rw [HDT.out]; exact HI2.out.next HO.out ho4)
          clear ho4
          go_wp2_with fail
          exact ⟨⟨j + 1, by omega, by simp, HIN⟩, by simp [intOf]; omega⟩
        · have HDT : Hid (d.opT x = (d.syncdir).2) := Lib.hid (by unfold Dk.opT; rw [HX.out.2.2.1]; rfl)
          go_wp2_with fail
          refine (syncdir_b HI2.out.one).mono ?_
          rintro e w3 ho
          obtain rfl := ho.1
          have hm := HI2.out.mid ho
          have hc3 := (ho.2.2.block b8 HB8.out.2 (fun h => HB8.out.1 b8 h rfl)).trans HC2.out
          have c0' : w3.cell? ⟨b8, 0, none⟩ = some (.int .i64 4) := cell_of hc3 rfl
          have c1' : w3.cell? ⟨b8, 1, none⟩ = some (.string x.name) := cell_of hc3 rfl
          have c2' : w3.cell? ⟨b8, 2, none⟩ = some (.slice oB lb cB) := cell_of hc3 rfl
          have HRC := Lib.hid (refSyncDir_b hm)
          have HO := Lib.hid ho
          clear ho hm hc3
          go_wp2_with fail
          refine (HRC.out).mono ?_
          rintro e w4 ho4
          obtain rfl := ho4.1
          have HIN := HFIN.out _ (by rw [HDT.out]; exact HI2.out.next HO.out ho4)
          clear ho4
          go_wp2_with fail
          exact ⟨⟨j + 1, by omega, by simp, HIN⟩, by simp [intOf]; omega⟩
        · have HDT : Hid (d.opT x = (d.remove x.name.data.toList).2) := Lib.hid (by unfold Dk.opT; rw [HX.out.2.2.1]; rfl)
          go_wp2_with fail
          refine (remove_b HI2.out.one x.name HOK.out.1).mono ?_
          rintro e w3 ho
          obtain rfl := ho.1
          have hm := HI2.out.mid ho
          have hc3 := (ho.2.2.block b8 HB8.out.2 (fun h => HB8.out.1 b8 h rfl)).trans HC2.out
          have c0' : w3.cell? ⟨b8, 0, none⟩ = some (.int .i64 5) := cell_of hc3 rfl
          have c1' : w3.cell? ⟨b8, 1, none⟩ = some (.string x.name) := cell_of hc3 rfl
          have c2' : w3.cell? ⟨b8, 2, none⟩ = some (.slice oB lb cB) := cell_of hc3 rfl
          have HRC := Lib.hid (refRemove_b hm x.name HOK.out.1)
          have HO := Lib.hid ho
          clear ho hm hc3
          go_wp2_with fail
          refine (HRC.out).mono ?_
          rintro e w4 ho4
          obtain rfl := ho4.1
          have HIN := HFIN.out _ (by rw [HDT.out]; exact HI2.out.next HO.out ho4)
          clear ho4
          go_wp2_with fail
          exact ⟨⟨j + 1, by omega, by simp, HIN⟩, by simp [intOf]; omega⟩
      · have e1 : (kd == 1) = false := by simp; omega
        have e2 : (kd == 2) = false := by simp; omega
        have e3 : (kd == 3) = false := by simp; omega
        have e4 : (kd == 4) = false := by simp; omega
        have e5 : (kd == 5) = false := by simp; omega
        have HDT : Hid (d.opT x = d) := Lib.hid (by unfold Dk.opT; rw [HX.out.2.2.1, if_neg (by omega), if_neg (by omega), if_neg (by omega), if_neg (by omega), if_neg (by omega)])
        clear hkk
        go_wp2_with fail
        have HIN := HFIN.out _ (by rw [HDT.out]; exact ⟨S1, S2, HI2.out⟩)
        exact ⟨⟨j + 1, by omega, by simp, HIN⟩, by simp [intOf]; omega⟩
    · obtain rfl : j = n := by omega
      have HE : Hid (TwoI w wr q p (Dk.opsT ⟨[], [], 0⟩ l)) := Lib.hid (by
        rw [List.take_of_length_le (by rw [HN.out]; exact Nat.le_refl _)] at hd
        rw [hd]; exact HI.out)
      clear hd
      go_wp2_with fail
      go_ret2
      exact ⟨q, p, rfl, HE.out⟩
end Go.Proofs.Ytmkjejngnahpeaa
