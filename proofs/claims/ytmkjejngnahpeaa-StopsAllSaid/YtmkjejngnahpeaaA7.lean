/- The texts Id, Ie, If in one. -/
import Derived.Test.YtmkjejngnahpeaaA3
import Derived.Test.YtmkjejngnahpeaaD2
import Derived.BigRegion
/- The document's disk: a file is written; Sync and Append of it. -/
namespace Go.Proofs.Ytmkjejngnahpeaa
open Go Go.Maps Go.RowKit
open Go.Proofs (encStr)

theorem rfCells_set : ∀ (l : List F0) (i k : Nat) (v : Value) (f' : F0) (hi : i < l.length), k < 5 → rfFile f' = (rfFile l[i]).set k v → rfCells (l.set i f') = (rfCells l).set (i * 5 + k) v
  | x :: r, 0, k, v, f', _, hk, h => by
    show rfFile f' ++ rfCells r = (rfFile x ++ rfCells r).set _ v
    have h5 : (rfFile x).length = 5 := rfl
    rw [List.set_append_left _ _ (by rw [h5]; omega), h, Nat.zero_mul, Nat.zero_add]
    rfl
  | x :: r, i + 1, k, v, f', hi, hk, h => by
    show rfFile x ++ rfCells (r.set i f') = (rfFile x ++ rfCells r).set _ v
    have h5 : (rfFile x).length = 5 := rfl
    rw [List.set_append_right _ _ (by rw [h5]; omega), h5, rfCells_set r i k v f' (by simpa using hi) hk h]
    congr 2
    omega
theorem turn_set {l : List F0} {s : List UInt8} (hs : (l.map (·.name)).Pairwise (· < ·)) {i : Nat} (hi : i < l.length) (hn : l[i].name = s) (t : F0 → F0) : (l.map fun f => if f.name = s then t f else f) = l.set i (t l[i]) := by
  refine List.ext_getElem (by simp) fun j h1 h2 => ?_
  rw [List.getElem_map, List.getElem_set]
  have hj : j < l.length := by simpa using h1
  by_cases hij : i = j
  · subst hij
    rw [if_pos hn, if_pos rfl]
  · rw [if_neg hij, if_neg]
    intro he
    have hp := List.pairwise_iff_getElem.1 hs
    rcases Nat.lt_or_gt_of_ne hij with h3 | h3
    · have := hp i j (by simpa using hi) (by simpa using hj) h3
      rw [List.getElem_map, List.getElem_map, hn, he] at this
      exact List.lt_irrefl _ this
    · have := hp j i (by simpa using hj) (by simpa using hi) h3
      rw [List.getElem_map, List.getElem_map, hn, he] at this
      exact List.lt_irrefl _ this
section
variable {w : World} {S : Nat → Prop} {p : Nat} {rv fv : Value} {d : Dk}
/-- one cell of one file is written -/
theorem RfIs.file_set (h : RfIs w S p rv fv d) {i k : Nat} (hi : i < d.files.length) {g off N c : Nat} (hrv : rv = .slice (some ⟨g, off, none⟩) N c) (hk : k < 5) {v : Value} {f' : F0} (hf : rfFile f' = (rfFile d.files[i]).set k v)
    (hn : f'.name = d.files[i].name) (hz : f'.lasts ≤ f'.bytes.length ∧ f'.bytes.length ≤ 16777216) : RfIs (w.setCell ⟨g, off + (i * 5 + k), none⟩ v) S p rv fv { d with files := d.files.set i f' } := by
  have ho : Only (fun k => k = g) w (w.setCell ⟨g, off + (i * 5 + k), none⟩ v) := only_setCell (fun k => k = g) _ _ _ _ rfl
  have hgr : rv.ownBlock = some g := by rw [hrv]; rfl
  have hmap : (d.files.set i f').map (·.name) = d.files.map (·.name) := by
    refine List.ext_getElem (by simp) fun j h1 h2 => ?_
    rw [List.getElem_map, List.getElem_map, List.getElem_set]
    split
    · rename_i e; subst e; exact hn
    · rfl
  have hmem : ∀ f ∈ d.files.set i f', f = f' ∨ f ∈ d.files := fun f hf' => by
    rcases List.mem_or_eq_of_mem_set hf' with h1 | h1
    · exact .inr h1
    · exact .inl h1
  exact {
    head := (ho.block p (h.low p h.footp) (fun e => h.rp g hgr e.symm)).trans h.head
    files := by
      have h1 := h.files
      rw [hrv] at h1
      have h2 := h1.setAt (j := i * 5 + k) (by omega) v
      rw [← rfCells_set d.files i k v f' hi hk hf] at h2
      rw [hrv]
      simpa using h2
    fates := h.fates.kept (fun k hk' => ho.block k (h.low k (h.footf k hk')) (fun e => h.rf g hgr (by rw [← e]; exact hk')))
    footp := h.footp
    footr := h.footr
    footf := h.footf
    low := fun k hk' => Nat.lt_of_lt_of_le (h.low k hk') ho.size
    sorted := by rw [hmap]; exact h.sorted
    names := fun f hf' => by
      rcases hmem f hf' with rfl | h1
      · rw [hn]; exact h.names _ (List.getElem_mem hi)
      · exact h.names f h1
    sizes := fun f hf' => by
      rcases hmem f hf' with rfl | h1
      · exact hz
      · exact h.sizes f h1
    few := by simpa using h.few }
theorem RfIs.drew (h : RfIs w S p rv fv d) : RfIs w.drew S p rv fv d := h.kept (fun _ _ => rfl) (Nat.le_refl _)
theorem RfIs.drewN (h : RfIs w S p rv fv d) (n : Nat) : RfIs (w.drewN n) S p rv fv d := h.kept (fun _ _ => rfl) (Nat.le_refl _)
end
theorem only_drewN {S : Nat → Prop} {w w' : World} (h : Only S w w') (n : Nat) : Only S w (w'.drewN n) := ⟨h.os, h.tape, h.output, h.size, h.block⟩
/-- what a call leaves of the document's disk -/
def ROpIs (w : World) (S : Nat → Prop) (p : Nat) (r : Int × Dk) (e : Ending) (w' : World) : Prop :=
  e = .returned (.int .i64 r.1) ∧ RfAt w' (Wid S w w') p r.2 ∧ Only S w w'
theorem rop_same {w w' : World} {S : Nat → Prop} {p : Nat} {rv fv : Value} {d d' : Dk} {n : Int} (h : RfIs w' S p rv fv d') (ho : Only S w w') (hd : d' = d) : ROpIs w S p (n, d) (.returned (.int .i64 n)) w' := by
  subst hd
  exact ⟨rfl, ⟨rv, fv, h.wider (fun k hk => .inl hk) (fun k hk => by
    rcases hk with hk | hk
    · exact h.low k hk
    · exact hk.2)⟩, ho⟩
theorem only_p {w w' : World} {S : Nat → Prop} {p : Nat} (h : Only (fun k => k = p) w w') (hp : S p) : Only S w w' := h.mono (fun i _ e => by rw [e]; exact hp)
theorem only_r {w w' : World} {S : Nat → Prop} {v : Value} {g : Nat} (h : Only (fun k => k = g) w w') (hg : v.ownBlock = some g) (hs : ∀ k, v.ownBlock = some k → S k) : Only S w w' := h.mono (fun i _ e => by rw [e]; exact hs g hg)
set_option maxRecDepth 100000 in
set_option maxHeartbeats 1000000 in
theorem refSync_b {w : World} {S : Nat → Prop} {p : Nat} {d : Dk} (h : RfAt w S p d) (nm : ByteArray) (hs : nm.size ≤ maxLen) :
    Calls Try.prog 57 #[.pointer (some ⟨p, 0, none⟩), .string nm] w fun e w' => ROpIs w S p (d.sync nm.data.toList) e w' := by
  obtain ⟨rv, fv, h⟩ := h
  obtain ⟨s, hss⟩ : ∃ s, nm.data.toList = s := ⟨_, rfl⟩
  have H := Lib.hid h
  have HSS := Lib.hid hss
  clear h
  go_enter Try.func57, Try.ntmps57
  go_wp2_with fail
  refine (refFind_b H.out nm hs).mono ?_
  rintro e w' ⟨hF, hw'⟩
  obtain rfl := hw'.symm
  rw [hss] at hF
  clear hss
  rcases hF with ⟨hn, rfl⟩ | ⟨hn, hf, rfl⟩ | ⟨hn, i, hi, hxn, hxt, hf, rfl⟩
  · have HE : Hid (ROpIs w S p (d.sync s) (.returned (.int .i64 2)) w) := Lib.hid (by
      rw [show d.sync s = (2, d) by simp [Dk.sync, hn]]
      exact rop_same H.out (Only.refl _ _) rfl)
    clear hn
    go_wp2_with fail
    go_ret
    rw [HSS.out]
    exact HE.out
  · have HE : Hid (ROpIs w S p (d.sync s) (.returned (.int .i64 171)) w) := Lib.hid (by
      rw [show d.sync s = (171, d) by simp [Dk.sync, hn, hf]]
      exact rop_same H.out (Only.refl _ _) rfl)
    clear hn hf
    go_wp2_with fail
    go_ret
    rw [HSS.out]
    exact HE.out
  · have HX := Lib.hid (And.intro hn (And.intro hxn (And.intro hxt hf)))
    clear hn hxn hxt hf
    go_wp2_with fail
    refine (refStep_b H.out).mono ?_
    rintro e w2 ⟨kp, fv2, rfl, hkp, h2, ho2⟩
    obtain ⟨oa, c, rfl, hnc⟩ := h2.files.shape
    obtain ⟨N, hN⟩ : ∃ N, d.files.length = N := ⟨_, rfl⟩
    obtain ⟨x, hx⟩ : ∃ x, d.files[i] = x := ⟨_, rfl⟩
    have hfl : d.next.files = d.files := rfl
    have hrow := h2.files
    rw [hfl, hN] at hrow
    have hiN : i < N := by omega
    obtain ⟨g, off, rfl⟩ := hrow.addr (by omega)
    obtain ⟨bs, hbs⟩ : ∃ a : ByteArray, a = ⟨x.bytes.toArray⟩ := ⟨_, rfl⟩
    have hbl : (bs.size : Int) = (x.bytes.length : Int) := by rw [hbs]; simp [ByteArray.size]
    obtain ⟨la, hla⟩ : ∃ a : Int, a = (x.lasts : Int) := ⟨_, rfl⟩
    have c0 : w2.cell? ⟨p, 0, none⟩ = some (.slice (some ⟨g, off, none⟩) N c) := cell_of h2.head (by rw [← hN]; rfl)
    have k1 : w2.cell? ⟨g, off + i * 5 + 1, none⟩ = some (.string bs) := rf_cell (i := 1) hrow hi (by omega) (by rw [hx, hbs]; rfl)
    have k2 : w2.cell? ⟨g, off + i * 5 + 2, none⟩ = some (.int .i64 la) := rf_cell (i := 2) hrow hi (by omega) (by rw [hx, hla]; rfl)
    have z2 : w2.frozen? ⟨g, off + i * 5 + 2, none⟩ = false := by have := hrow.freeAt (j := i * 5 + 2) (by omega); rwa [← Nat.add_assoc] at this
    have hsz := h2.sizes x (by rw [hfl, ← hx]; exact List.getElem_mem hi)
    have hN4 : N ≤ 4096 := by rw [← hN]; exact h2.few
    obtain ⟨er, her⟩ : ∃ n, d.fate.1 = n := ⟨_, rfl⟩
    rw [her] at hkp ⊢
    have hlb : 0 ≤ la ∧ la ≤ (bs.size : Int) ∧ (bs.size : Int) ≤ 16777216 := by omega
    have HD : Hid (∀ (v : Int) (W : World), v = ((if er = 0 then x.bytes.length else x.lasts + min (x.bytes.length - x.lasts) d.fate.2 : Nat) : Int) → (∃ a, W = w2.drewN a) → ROpIs w S p (d.sync s) (.returned (.int .i64 er)) (W.setCell ⟨g, off + i * 5 + 2, none⟩ (.int .i64 v)).drew) := Lib.hid (fun v W hv hW => by
      obtain ⟨na, hW⟩ := hW
      have hde : d.sync s = (er, { d.next with files := d.files.set i { x with lasts := if er = 0 then x.bytes.length else x.lasts + min (x.bytes.length - x.lasts) d.fate.2 } }) := by
        unfold Dk.sync
        rw [if_neg (by rw [HX.out.1]; simp), HX.out.2.2.2, her]
        simp only [Dk.turn]
        rw [turn_set h2.sorted (i := i) hi HX.out.2.1]
        simp only [hfl, hx]
      have h3 := (h2.drewN na).file_set (i := i) (k := 2) (v := .int .i64 v) (f' := { x with lasts := if er = 0 then x.bytes.length else x.lasts + min (x.bytes.length - x.lasts) d.fate.2 }) hi rfl (by omega)
        (by show rfFile _ = (rfFile d.files[i]).set 2 _; rw [hx, hv]; rfl) (by show x.name = d.files[i].name; rw [hx]) ⟨by show (if er = 0 then _ else _) ≤ x.bytes.length; split <;> omega, hsz.2⟩
      rw [hde, hW]
      rw [← Nat.add_assoc] at h3
      refine rop_same h3.drew (only_drew ?_) rfl
      refine ((only_p (only_drewN ho2 na) H.out.footp).trans (only_r (v := .slice (some ⟨g, off, none⟩) d.files.length c) (g := g) (only_setCell (fun k => k = g) _ _ _ _ rfl) rfl H.out.footr) (fun _ _ h => h))
      )
    have HKP := Lib.hid (And.intro hkp (And.intro hbl hla))
    clear hrow hx hbs hla hsz her hkp hnc hN h2 ho2 HX hfl hbl
    by_cases h0 : er = 0
    · subst h0
      go_wp2_with fail
      go_quiet (fail)
      go_wp2_with fail
      obtain ⟨w5, hw5⟩ : ∃ x, x = w2.drewN nq := ⟨_, rfl⟩
      have d0 : w5.cell? ⟨p, 0, none⟩ = some (.slice (some ⟨g, off, none⟩) N c) := by rw [hw5]; exact c0
      have d2 : w5.cell? ⟨g, off + i * 5 + 2, none⟩ = some (.int .i64 la) := by rw [hw5]; exact k2
      have y2 : w5.frozen? ⟨g, off + i * 5 + 2, none⟩ = false := by rw [hw5]; exact z2
      rw [← hw5]
      have HW5 : Hid (∃ a, w5 = w2.drewN a) := Lib.hid ⟨nq, hw5⟩
      clear hw5 z2 c0 k1 k2
      go_region
      go_wp2_with fail
      go_ret
      rw [HSS.out]
      refine HD.out _ _ ?_ HW5.out
      have h1 := HKP.out
      simp
      omega
    · have hne : (er != 0) = true := by simpa using h0
      have HKQ : Hid (0 ≤ kp ∧ kp = d.fate.2) := Lib.hid (by have := HKP.out.1 h0; omega)
      have hkq := HKQ.out.1
      by_cases hlt : kp < (bs.size : Int) - la
      · skip
        go_wp2_with fail
        go_quiet (fail)
        go_wp2_with fail
        obtain ⟨w5, hw5⟩ : ∃ x, x = w2.drewN nq := ⟨_, rfl⟩
        have d0 : w5.cell? ⟨p, 0, none⟩ = some (.slice (some ⟨g, off, none⟩) N c) := by rw [hw5]; exact c0
        have d2 : w5.cell? ⟨g, off + i * 5 + 2, none⟩ = some (.int .i64 la) := by rw [hw5]; exact k2
        have y2 : w5.frozen? ⟨g, off + i * 5 + 2, none⟩ = false := by rw [hw5]; exact z2
        rw [← hw5]
        have HW5 : Hid (∃ a, w5 = w2.drewN a) := Lib.hid ⟨nq, hw5⟩
        clear hw5 z2 c0 k1 k2
        go_region
        go_wp2_with fail
        go_ret
        rw [HSS.out]
        refine HD.out _ _ ?_ HW5.out
        have h1 := HKP.out
        have h2 := HKQ.out
        rw [if_neg h0]
        omega
      · skip
        go_wp2_with fail
        go_quiet (fail)
        go_wp2_with fail
        obtain ⟨w5, hw5⟩ : ∃ x, x = w2.drewN nq := ⟨_, rfl⟩
        have d0 : w5.cell? ⟨p, 0, none⟩ = some (.slice (some ⟨g, off, none⟩) N c) := by rw [hw5]; exact c0
        have d2 : w5.cell? ⟨g, off + i * 5 + 2, none⟩ = some (.int .i64 la) := by rw [hw5]; exact k2
        have y2 : w5.frozen? ⟨g, off + i * 5 + 2, none⟩ = false := by rw [hw5]; exact z2
        rw [← hw5]
        have HW5 : Hid (∃ a, w5 = w2.drewN a) := Lib.hid ⟨nq, hw5⟩
        clear hw5 z2 c0 k1 k2
        go_region
        go_wp2_with fail
        go_ret
        rw [HSS.out]
        refine HD.out _ _ ?_ HW5.out
        have h1 := HKP.out
        have h2 := HKQ.out
        rw [if_neg h0]
        omega
end Go.Proofs.Ytmkjejngnahpeaa
/- The document's disk: Append. -/
namespace Go.Proofs.Ytmkjejngnahpeaa
open Go Go.Maps Go.RowKit
open Go.Proofs (encStr)

theorem run_string_rd {P : Program} (w : World) (src dst e : TypeId) (oa : Option Addr) (n c : Nat) (l : List UInt8) (hl : l.length = n) (hs : P.underlying src = some (.slice e)) (he : P.underlying e = some (.int .u8)) (hd : P.underlying dst = some .string)
    (h : readAt w 1 (.slice oa n c) n (byteCells l)) : (convert src dst (.slice oa n c)).run P w = .ok (.string ⟨l.toArray⟩) w := by
  subst hl
  rcases h.2 with ⟨h0, oa', c', hv, hn⟩ | ⟨g, off, c', hv, h0, hg, hc, hj⟩
  · simp only [Value.slice.injEq] at hv
    obtain ⟨rfl, -, rfl⟩ := hv
    have hl : l = [] := List.eq_nil_of_length_eq_zero h0
    subst hl
    cases oa with
    | none => 
      obtain rfl := hn rfl
      exact run_string_row w 0 src dst e _ [] hs he hd ⟨rfl, .inl ⟨rfl, rfl⟩⟩
    | some a => exact run_convert_bytes_back w src dst e a c [] hs he hd fun j hj => by cases hj
  · simp only [Value.slice.injEq] at hv
    obtain ⟨rfl, -, rfl⟩ := hv
    refine run_convert_bytes_back w src dst e ⟨g, off, none⟩ c l hs he hd fun j hj' => ?_
    rw [Go.WideShapes.add_plain]
    exact hj j _ (by simp [byteCells, hj'])
set_option maxRecDepth 100000 in
set_option maxHeartbeats 1000000 in
theorem refAppend_b {w : World} {S : Nat → Prop} {p : Nat} {d : Dk} (h : RfAt w S p d) (nm : ByteArray) (hs : nm.size ≤ maxLen) (oa : Option Addr) (c : Nat) (b : List UInt8) (hb : readAt w 1 (.slice oa b.length c) b.length (byteCells b)) (hbS : ∀ k, (Value.slice oa b.length c).ownBlock = some k → 0 < b.length → ¬ S k) :
    Calls Try.prog 56 #[.pointer (some ⟨p, 0, none⟩), .string nm, .slice oa b.length c] w fun e w' => ROpIs w S p (d.append nm.data.toList b) e w' := by
  obtain ⟨rv, fv, h⟩ := h
  obtain ⟨lb, hlb⟩ : ∃ lb, b.length = lb := ⟨_, rfl⟩
  rw [hlb] at hb hbS ⊢
  have HBW := Lib.hid (And.intro hb hbS)
  have HLB := Lib.hid hlb
  clear hb hbS hlb
  obtain ⟨s, hss⟩ : ∃ s, nm.data.toList = s := ⟨_, rfl⟩
  have H := Lib.hid h
  have HSS := Lib.hid hss
  clear h
  go_enter Try.func56, Try.ntmps56
  go_wp2_with fail
  refine (refFind_b H.out nm hs).mono ?_
  rintro e w' ⟨hF, hw'⟩
  obtain rfl := hw'.symm
  rw [hss] at hF
  clear hss
  rcases hF with ⟨hn, rfl⟩ | ⟨hn, hf, rfl⟩ | ⟨hn, i, hi, hxn, hxt, hf, rfl⟩
  · have HE : Hid (ROpIs w S p (d.append s b) (.returned (.int .i64 2)) w) := Lib.hid (by
      rw [show d.append s b = (2, d) by simp [Dk.append, hn]]
      exact rop_same H.out (Only.refl _ _) rfl)
    clear hn
    go_wp2_with fail
    go_ret
    rw [HSS.out]
    exact HE.out
  · have HE : Hid (ROpIs w S p (d.append s b) (.returned (.int .i64 171)) w) := Lib.hid (by
      rw [show d.append s b = (171, d) by simp [Dk.append, hn, hf]]
      exact rop_same H.out (Only.refl _ _) rfl)
    clear hn hf
    go_wp2_with fail
    go_ret
    rw [HSS.out]
    exact HE.out
  · obtain ⟨x, hx⟩ : ∃ x, d.files[i] = x := ⟨_, rfl⟩
    obtain ⟨oa1, c1, rfl, hnc⟩ := H.out.files.shape
    obtain ⟨N, hN⟩ : ∃ N, d.files.length = N := ⟨_, rfl⟩
    obtain ⟨bs, hbs⟩ : ∃ a : ByteArray, a = ⟨x.bytes.toArray⟩ := ⟨_, rfl⟩
    have hbl' : bs.size = x.bytes.length := by rw [hbs]; simp [ByteArray.size]
    have hrow := H.out.files
    rw [hN] at hrow
    have hiN : i < N := by omega
    obtain ⟨g, off, rfl⟩ := hrow.addr (by omega)
    have hN4 : N ≤ 4096 := by rw [← hN]; exact H.out.few
    have hsz := H.out.sizes x (by rw [← hx]; exact List.getElem_mem hi)
    have c0 : w.cell? ⟨p, 0, none⟩ = some (.slice (some ⟨g, off, none⟩) N c1) := cell_of H.out.head (by rw [← hN]; rfl)
    have k1 : w.cell? ⟨g, off + i * 5 + 1, none⟩ = some (.string bs) := rf_cell (i := 1) hrow hi (by omega) (by rw [hx, hbs]; rfl)
    have hbb : bs.size ≤ 16777216 := by omega
    by_cases hvast : 16777216 < lb + bs.size
    · have HE : Hid (ROpIs w S p (d.append s b) (.returned (.int .i64 6)) w) := Lib.hid (by
        rw [show d.append s b = (6, d) by
          unfold Dk.append
          rw [if_neg (by rw [hn]; simp), hf, hx]
          show (if _ then _ else _) = _
          rw [if_pos (by rw [HLB.out, ← hbl']; exact hvast)]]
        exact rop_same H.out (Only.refl _ _) rfl)
      have hd : decide ((16777216 : Int) - (bs.size : Int) < (lb : Int)) = true := decide_eq_true (by omega)
      clear hn hf hxn hxt hx hnc hN hbs hbl' hrow hsz
      go_wp2_with fail
      go_ret
      rw [HSS.out]
      exact HE.out
    · have hd : decide ((16777216 : Int) - (bs.size : Int) < (lb : Int)) = false := decide_eq_false (by omega)
      have HX := Lib.hid (And.intro hn (And.intro hxn (And.intro hxt (And.intro hf (And.intro hx (And.intro hN (And.intro hbs (And.intro hbl' hsz))))))))
      clear hn hf hxn hxt hx hnc hN hbs hbl' hrow hsz
      go_wp2_with fail
      refine (refStep_b H.out).mono ?_
      rintro e w2 ⟨kp, fv2, rfl, hkp, h2, ho2⟩
      have hfl : d.next.files = d.files := rfl
      have hrow := h2.files
      rw [hfl, HX.out.2.2.2.2.2.1] at hrow
      have hh2 := h2.head
      rw [HX.out.2.2.2.2.2.1] at hh2
      have c0' : w2.cell? ⟨p, 0, none⟩ = some (.slice (some ⟨g, off, none⟩) N c1) := cell_of hh2 rfl
      have k1' : w2.cell? ⟨g, off + i * 5 + 1, none⟩ = some (.string bs) := rf_cell (i := 1) hrow hi (by omega) (by rw [HX.out.2.2.2.2.1, HX.out.2.2.2.2.2.2.1]; rfl)
      have z1' : w2.frozen? ⟨g, off + i * 5 + 1, none⟩ = false := by have := hrow.freeAt (j := i * 5 + 1) (by omega); rwa [← Nat.add_assoc] at this
      obtain ⟨er, her⟩ : ∃ n, d.fate.1 = n := ⟨_, rfl⟩
      rw [her] at hkp ⊢
      have HD : Hid (∀ (l : List UInt8) (v : ByteArray), l = (if er = 0 then b else b.take d.fate.2) → v = ⟨(x.bytes ++ l).toArray⟩ → ROpIs w S p (d.append s b) (.returned (.int .i64 er)) (w2.setCell ⟨g, off + i * 5 + 1, none⟩ (.string v)).drew) := Lib.hid (fun l v hl hv => by
        obtain ⟨hn, hxn, hxt, hf, hx, hN, hbs, hbl', hsz⟩ := HX.out
        have hde : d.append s b = (er, { d.next with files := d.files.set i { x with bytes := x.bytes ++ l } }) := by
          unfold Dk.append
          rw [if_neg (by rw [hn]; simp), hf]
          show (if _ then _ else _) = _
          rw [if_neg (by rw [HLB.out, hx, ← hbl']; exact hvast), her]
          simp only [Dk.turn]
          rw [turn_set h2.sorted (i := i) hi hxn]
          simp only [hfl, hx, hl]
        have hll : l.length ≤ lb := by
          rw [hl, ← HLB.out]
          split
          · exact Nat.le_refl _
          · rw [List.length_take]; omega
        have h3 := h2.file_set (i := i) (k := 1) (v := .string v) (f' := { x with bytes := x.bytes ++ l }) hi rfl (by omega)
          (by show rfFile _ = (rfFile d.files[i]).set 1 _; rw [hx, hv]; rfl) (by show x.name = d.files[i].name; rw [hx]) ⟨by show x.lasts ≤ (x.bytes ++ l).length; rw [List.length_append]; omega, by show (x.bytes ++ l).length ≤ _; rw [List.length_append]; omega⟩
        rw [hde]
        rw [← Nat.add_assoc] at h3
        refine rop_same h3.drew (only_drew ?_) rfl
        exact (only_p ho2 H.out.footp).trans (only_r (v := .slice (some ⟨g, off, none⟩) d.files.length c1) (g := g) (only_setCell (fun k => k = g) _ _ _ _ rfl) rfl H.out.footr) (fun _ _ h => h))
      have HBR : Hid (readAt w2 1 (.slice oa lb c) lb (byteCells b)) := Lib.hid (HBW.out.1.kept (fun k hk hk2 h0 => ho2.block k hk (fun e => HBW.out.2 k hk2 h0 (by rw [e]; exact H.out.footp))))
      have HBS : Hid (bs = ⟨x.bytes.toArray⟩) := Lib.hid HX.out.2.2.2.2.2.2.1
      have HKP := Lib.hid hkp
      clear hrow hh2 h2 ho2 her hkp hfl c0 k1 hd
      by_cases h0 : er = 0
      · subst h0
        have hcv : ∀ W : World, W = w2 ∨ W = w2.drew → (convert 79 9 (.slice oa lb c)).run Try.prog W = .ok (.string ⟨b.toArray⟩) W := fun W hW => run_string_rd W 79 9 5 oa lb c b HLB.out Try.underlying79 Try.underlying5 Try.underlying9 (by rcases hW with rfl | rfl <;> exact HBR.out)
        have hcv1 := hcv w2 (.inl rfl)
        have hcv2 := hcv w2.drew (.inr rfl)
        obtain ⟨ab, hab⟩ : ∃ a : ByteArray, a = ⟨b.toArray⟩ := ⟨_, rfl⟩
        rw [← hab] at hcv1 hcv2
        have HAB := Lib.hid hab
        have habs : ab.size = lb := by rw [hab, ← HLB.out]; simp [ByteArray.size]
        have hadd : ¬ 9223372036854775807 < bs.size + ab.size := by omega
        clear hcv hab
        go_wp2_with fail
        go_region
        go_wp2_with fail
        go_ret
        rw [HSS.out]
        exact HD.out b _ (by simp) (by rw [HBS.out, HAB.out, ByteArray.mk_append_mk])
      · have hne : (er != 0) = true := by simpa using h0
        obtain ⟨k, hk⟩ : ∃ k, d.fate.2 = k := ⟨_, rfl⟩
        have hkp : kp = (k : Int) := by rw [HKP.out h0, hk]
        subst hkp
        rw [hk] at HD
        clear hk HKP
        have hlc : lb ≤ c := HBR.out.cap
        have hz := add_zero_map oa
        by_cases hlt : k < lb
        · skip
          have hsl := fun W => run_take oa lb c k (by omega) hz W
          have hmin : min (k : Int) (lb : Int) = (k : Int) := by omega
          have hrd : readAt w2 1 (.slice oa k c) k (byteCells (b.take k)) := by
            have := HBR.out.take k (by omega)
            simpa [byteCells, List.map_take] using this
          have hkl : (b.take k).length = k := by rw [List.length_take, HLB.out]; omega
          have hcv : ∀ W : World, W = w2 ∨ W = w2.drew → (convert 79 9 (.slice oa k c)).run Try.prog W = .ok (.string ⟨(b.take k).toArray⟩) W := fun W hW => run_string_rd W 79 9 5 oa k c (b.take k) hkl Try.underlying79 Try.underlying5 Try.underlying9 (by rcases hW with rfl | rfl <;> exact hrd)
          have hcv1 := hcv w2 (.inl rfl)
          have hcv2 := hcv w2.drew (.inr rfl)
          obtain ⟨ab, hab⟩ : ∃ a : ByteArray, a = ⟨(b.take k).toArray⟩ := ⟨_, rfl⟩
          rw [← hab] at hcv1 hcv2
          have HAB := Lib.hid hab
          have habs : ab.size = k := by rw [hab, ← hkl]; simp [ByteArray.size]
          have hadd : ¬ 9223372036854775807 < bs.size + ab.size := by omega
          clear hcv hab hrd hkl hz
          go_wp2_with fail
          go_region
          go_wp2_with fail
          go_ret
          rw [HSS.out]
          exact HD.out (b.take k) _ (by rw [if_neg h0]) (by rw [HBS.out, HAB.out, ByteArray.mk_append_mk])
        · skip
          have hsl := fun W => run_take oa lb c lb (by omega) hz W
          have hmin : min (k : Int) (lb : Int) = (lb : Int) := by omega
          have hrd : readAt w2 1 (.slice oa lb c) lb (byteCells (b.take lb)) := by
            have := HBR.out.take lb (by omega)
            simpa [byteCells, List.map_take] using this
          have hkl : (b.take lb).length = lb := by rw [List.length_take, HLB.out]; omega
          have hcv : ∀ W : World, W = w2 ∨ W = w2.drew → (convert 79 9 (.slice oa lb c)).run Try.prog W = .ok (.string ⟨(b.take lb).toArray⟩) W := fun W hW => run_string_rd W 79 9 5 oa lb c (b.take lb) hkl Try.underlying79 Try.underlying5 Try.underlying9 (by rcases hW with rfl | rfl <;> exact hrd)
          have hcv1 := hcv w2 (.inl rfl)
          have hcv2 := hcv w2.drew (.inr rfl)
          obtain ⟨ab, hab⟩ : ∃ a : ByteArray, a = ⟨(b.take lb).toArray⟩ := ⟨_, rfl⟩
          rw [← hab] at hcv1 hcv2
          have HAB := Lib.hid hab
          have habs : ab.size = lb := by rw [hab, ← hkl]; simp [ByteArray.size]
          have hadd : ¬ 9223372036854775807 < bs.size + ab.size := by omega
          clear hcv hab hrd hkl hz
          go_wp2_with fail
          go_region
          go_wp2_with fail
          go_ret
          rw [HSS.out]
          exact HD.out (b.take lb) _ (by rw [if_neg h0, List.take_of_length_le (l := b) (by rw [HLB.out]; exact Nat.le_refl _), List.take_of_length_le (l := b) (by rw [HLB.out]; omega)]) (by rw [HBS.out, HAB.out, ByteArray.mk_append_mk])
end Go.Proofs.Ytmkjejngnahpeaa
/- The document's disk: rows of files that are built anew. -/
namespace Go.Proofs.Ytmkjejngnahpeaa
open Go Go.Maps Go.RowKit
open Go.Proofs (encStr)

theorem info_rfile : (Try.prog.info? 200).map (fun i => (i.zero, i.size, i.bytes)) = some (some (.agg #[.string ⟨#[]⟩, .string ⟨#[]⟩, .int .i64 0, .bool false, .bool false]), 5, 48) := by kernel_rfl
theorem rfive_row (w : World) (a b c d e : Value) : rowAt (w.alloc (.cells #[a, b, c, d, e] 200)) 200 5 (.slice (some ⟨w.heap.size, 0, none⟩) 1 1) 1 [a, b, c, d, e] :=
  ⟨rfl, .inr ⟨_, 0, 1, _, _, rfl, alloc_cells _ _ _, Nat.le_refl _, by unfold maxLen; omega, by simp, freeRow_zero _, rfl⟩⟩
/-- a row of the document's files, in blocks that are new since w0 -/
structure NewRow (w0 W : World) (v : Value) (l : List F0) : Prop where
  row : rowAt W 200 5 v l.length (rfCells l)
  own : ∀ k, v.ownBlock = some k → w0.heap.size ≤ k
  below : Below w0.heap.size w0 W
theorem NewRow.nil {w0 W : World} (h : Below w0.heap.size w0 W) : NewRow w0 W (.slice none 0 0) [] := ⟨⟨rfl, .inl ⟨rfl, rfl⟩⟩, fun k hk => by simp [Value.ownBlock] at hk, h⟩
theorem NewRow.kept {w0 W W' : World} {v : Value} {l : List F0} (h : NewRow w0 W v l) (hb : Below W.heap.size W W') : NewRow w0 W' v l :=
  ⟨h.row.kept (fun k hk => hb.block k (h.row.lt k hk)), h.own, h.below.trans (hb.mono h.below.size)⟩
theorem NewRow.alloc {w0 W : World} {v : Value} {l : List F0} (h : NewRow w0 W v l) (o : Obj) : NewRow w0 (W.alloc o) v l := h.kept ((Below.refl _ _).alloc (Nat.le_refl _) _)
theorem NewRow.len {w0 W : World} {oa : Option Addr} {m c : Nat} {l : List F0} (h : NewRow w0 W (.slice oa m c) l) : l.length = m := by
  obtain ⟨oa', c', he, _⟩ := h.row.shape
  simp only [Value.slice.injEq] at he
  exact he.2.1.symm
/-- files are appended to such a row -/
theorem wpList_append_rf {w0 w : World} {ops : Array Oper} {rest : List Oper} {o : Oper} {a : Act} {Q : Exit → Act → World → Prop} (hgd : o.guard = none) (s x : Operand)
    (ho : o.op = .call { callee := .builtin .append, args := #[s, x], argTypes := #[196, 196] })
    {oa : Option Addr} {m c : Nat} {l : List F0} (h : NewRow w0 w (.slice oa m c) l) {ob : Option Addr} {k cb : Nat} {l2 : List F0} (hk : l2.length = k) (hr : readAt w 5 (.slice ob k cb) k (rfCells l2)) {t : Nat} (ht : m + k = t) (hm : t ≤ 100000)
    (hs : a.eval s = .slice oa m c) (hx : a.eval x = .slice ob k cb)
    (hK : ∀ oa3 c3 w3, Hid (NewRow w0 w3 (.slice oa3 t c3) (l ++ l2)) → wpList Try.prog ops Q rest (a.put o.dst (.slice oa3 t c3)) w3) :
    wpList Try.prog ops Q (o :: rest) a w := by
  subst ht
  have hl := h.len
  have hrow := h.row
  rw [hl] at hrow
  refine wpList_append_at _ hgd s x 196 196 ho 200 (.agg #[.string ⟨#[]⟩, .string ⟨#[]⟩, .int .i64 0, .bool false, .bool false]) 5 48 Try.underlying196 info_rfile rfl _ m _ hs hrow _ k _ hx (Src.of_read Try.underlying196 hr (rfCells_one l2)) (by unfold maxLen; omega) (by omega) ?_
  intro v' w3 hr3 hg hown _
  obtain ⟨oa3, c3, rfl, _⟩ := hr3.shape
  refine hK oa3 c3 w3 (Lib.hid ⟨?_, ?_, ?_⟩)
  · rw [List.length_append, hl, hk, rfCells_append]
    exact hr3
  · intro j hj
    rcases hown with h1 | h1
    · exact h.own j (by rw [← h1]; exact hj)
    · rw [hj] at h1
      simp only [Option.some.injEq] at h1
      have := h.below.size
      omega
  · exact h.below.grown hg h.below.size (fun k hk' => h.own k hk')
theorem rtake_run {oa : Option Addr} {n c : Nat} (i : Nat) (hi : i ≤ c) (h0 : oa.map (fun x => x.add 0) = oa) (W : World) : (Instr.slice 196 (.slice oa n c) none (some (.int .i64 (i : Int))) none).run Try.prog W = .ok (.slice oa i c) W := by
  have hs : (sizeOf 200).run Try.prog W = .ok 5 W := by kernel_rfl
  have he : Try.prog.elem 196 = 200 := by kernel_rfl
  rw [run_slice_h (P := Try.prog) (w := W) 196 oa n c (by rw [he]; exact Try.underlying196) .i64 i (by omega) (by omega), he, hs]
  simp [Result.andThen, sliced, h0]
theorem rdrop_run (oa : Option Addr) (n c i : Nat) (hi : i ≤ n) (W : World) : (Instr.slice 196 (.slice oa n c) (some (.int .i64 (i : Int))) none none).run Try.prog W = .ok (.slice (if c = i then oa else oa.map (·.add (i * 5))) (n - i) (c - i)) W := by
  have hs : (sizeOf 200).run Try.prog W = .ok 5 W := by kernel_rfl
  have he : Try.prog.elem 196 = 200 := by kernel_rfl
  rw [run_slice_l (P := Try.prog) (w := W) 196 oa n c (by rw [he]; exact Try.underlying196) .i64 i (by omega) (by omega), he, hs]
  simp [Result.andThen, sliced]
theorem rowAt.files_take {w : World} {oa : Option Addr} {c n j : Nat} {l : List F0} (h : rowAt w 200 5 (.slice oa n c) n (rfCells l)) (hj : j ≤ n) : readAt w 5 (.slice oa j c) j (rfCells (l.take j)) := by
  rw [rfCells_take]
  exact (rowAt.take h j hj).read
theorem rowAt.files_drop {w : World} {oa : Option Addr} {c n j : Nat} {l : List F0} (h : rowAt w 200 5 (.slice oa n c) n (rfCells l)) (hj : j ≤ n) : readAt w 5 (.slice (if c = j then oa else oa.map (·.add (j * 5))) (n - j) (c - j)) (n - j) (rfCells (l.drop j)) := by
  obtain ⟨oa', c', he, hc⟩ := h.shape
  simp only [Value.slice.injEq] at he
  obtain ⟨-, -, rfl⟩ := he
  have h1 := (h.sub j n c hj (Nat.le_refl _) hc (Nat.le_refl _)).read
  have hl : (rfCells l).length = n * 5 := h.1
  have e : ((rfCells l).drop (j * 5)).take ((n - j) * 5) = rfCells (l.drop j) := by
    rw [rfCells_drop, List.take_of_length_le]
    rw [List.length_drop, hl]
    omega
  rw [e] at h1
  exact h1
/-- where a file is put in -/
theorem insF_at (f : F0) : ∀ (l : List F0) (j : Nat), j ≤ l.length → (∀ g ∈ l.take j, g.name < f.name) → (∀ h : j < l.length, ¬ l[j].name < f.name) → insF f l = l.take j ++ f :: l.drop j
  | [], j, hj, _, _ => by
    obtain rfl : j = 0 := by simpa using hj
    rfl
  | g :: r, 0, _, _, h => by
    have h0 := h (by simp)
    show (if g.name < f.name then _ else _) = _
    rw [if_neg (by simpa using h0)]
    rfl
  | g :: r, j + 1, hj, h1, h2 => by
    have h0 := h1 g (by simp)
    show (if g.name < f.name then _ else _) = _
    rw [if_pos h0, insF_at f r j (by simpa using hj) (fun x hx => h1 x (by simp [hx])) (fun hlt => h2 (by simpa using hlt))]
    rfl
theorem less_eq : ∀ (x y : List UInt8), Op.bytesLess x y = decide (x < y)
  | [], [] => by simp [Op.bytesLess]
  | _ :: _, [] => by simp [Op.bytesLess]
  | [], _ :: _ => by simp [Op.bytesLess]
  | a :: x, b :: y => by
    rw [Op.bytesLess, less_eq x y]
    by_cases h : a < b
    · simp [h, List.cons_lt_cons_iff]
    · by_cases e : a = b
      · subst e; simp
      · simp [h, e, List.cons_lt_cons_iff]
theorem str_less {a b : ByteArray} {t : Bool} (h : decide (a.data.toList < b.data.toList) = t) : Op.bytesLess a.toList b.toList = t := by
  rw [less_eq, ← h, Lib.toList_data, Lib.toList_data]
/-- a new row of files is stored -/
theorem rf_store {w w2 w5 : World} {S : Nat → Prop} {p : Nat} {rv fv : Value} {d1 : Dk} (h2 : RfIs w2 S p rv fv d1) (ho2 : Only (fun k => k = p) w w2) {v' : Value} {fl' : List F0} (hr : NewRow w2 w5 v' fl')
    (hs : (fl'.map (·.name)).Pairwise (· < ·)) (hn : ∀ f ∈ fl', nameOk f.name = true) (hz : ∀ f ∈ fl', f.lasts ≤ f.bytes.length ∧ f.bytes.length ≤ 16777216) (hf : fl'.length ≤ 4096) (er : Int) :
    ROpIs w S p (er, { d1 with files := fl' }) (.returned (.int .i64 er)) (w5.setCell ⟨p, 0, none⟩ v') := by
  have hplt : p < w2.heap.size := h2.low p h2.footp
  have hset : Only (fun k => k = p) w5 (w5.setCell ⟨p, 0, none⟩ v') := only_setCell (fun k => k = p) _ _ _ _ rfl
  have ho : Only (fun k => k = p) w2 (w5.setCell ⟨p, 0, none⟩ v') := (Only.of_below hr.below (Nat.le_refl _) _).trans hset (fun _ _ h => h)
  have hsz5 := hr.below.size
  have hszs := hset.size
  have hsz2 := ho2.size
  have hp5 := (hr.below.block p hplt).trans h2.head
  refine ⟨rfl, ⟨v', fv, ?_⟩, (only_p ho2 h2.footp).trans (only_p ho h2.footp) (fun _ _ h => h)⟩
  refine h2.files_turn ho (heap_setCell_here _ hp5) (hr.row.kept (fun k hk => hset.block k (hr.row.lt k hk) (fun e => by have := hr.own k hk; omega))) (fun k hk => .inl hk) (fun k hk => .inr ⟨?_, ?_⟩) (fun k hk => ?_) hs hn hz hf
  · have := hr.own k hk
    omega
  · have := hr.row.lt k hk
    omega
  · rcases hk with hk | hk
    · have := h2.low k hk
      omega
    · exact hk.2
end Go.Proofs.Ytmkjejngnahpeaa
