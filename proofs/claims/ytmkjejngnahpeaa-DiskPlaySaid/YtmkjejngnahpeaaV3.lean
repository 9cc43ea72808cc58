/- The texts Em, En, Eo, Ep, Eq, Er, Es, Et, Eu, Ev, Ia, Ib in one. -/
import Derived.Test.YtmkjejngnahpeaaV2
/- Disk: Cut. -/
namespace Go.Proofs.Ytmkjejngnahpeaa
open Go Go.Maps Go.RowKit

def Dk.cut (d : Dk) (s : List UInt8) (n : Int) : Int × Dk :=
  if nameOk s = false then (2, d)
  else match d.find s with
    | none => (171, d)
    | some f => if n < 0 ∨ (f.bytes.length : Int) < n then (4, d)
      else if d.fate.1 ≠ 0 then (d.fate.1, d.next)
      else (0, d.next.turn s fun f => { f with bytes := f.bytes.take n.toNat, lasts := min f.lasts n.toNat })
theorem run_both (oa : Option Addr) (N c E : Nat) (h2 : E ≤ c) (h0 : oa.map (fun x => x.add 0) = oa) (W : World) : (Instr.slice 79 (.slice oa N c) none (some (.int .i64 (E : Int))) (some (.int .i64 (E : Int)))).run Try.prog W = .ok (.slice oa E E) W := by
  have hs : (sizeOf 5).run Try.prog W = .ok 1 W := by kernel_rfl
  have he : Try.prog.elem 79 = 5 := by kernel_rfl
  rw [run_slice_hm (P := Try.prog) (w := W) 79 oa N c (by rw [he]; exact Try.underlying79) .i64 .i64 E E (by omega) (by omega) (by omega), he, hs]
  simp [Result.andThen, sliced, h0]
theorem rowAt.cap {w : World} {e : TypeId} {size : Nat} {oa : Option Addr} {n cap : Nat} {xs : List Value} (h : rowAt w e size (.slice oa n cap) n xs) (k : Nat) (hk : k ≤ n) : rowAt w e size (.slice oa k k) k (xs.take (k * size)) := by
  obtain ⟨hm, hc⟩ := h.map0
  have h1 := h.sub 0 k k (Nat.zero_le _) hk (Nat.le_refl _) (Nat.le_trans hk hc)
  simp only [Nat.zero_mul, List.drop_zero, Nat.sub_zero] at h1
  rw [hm] at h1
  simpa using h1
/-- a file is cut -/
theorem set_cut {w w2 : World} {S : Nat → Prop} {q mb : Nat} {fv' : Value} {A B : List Fl} {x : Fl} {d1 : Dk} (ho : Only (fun k => k = q) w w2) (h2 : DiskIs w2 S q mb fv' (A ++ x :: B) d1) {oa : Option Addr} {c k : Nat} (hbv : x.bv = .slice oa x.f.bytes.length c) (hk : k ≤ x.f.bytes.length) {v : Int} (hv : v = ((min x.f.lasts k : Nat) : Int))
    {s : List UInt8} {t : F0 → F0} (hs : x.f.name = s) (ht : t x.f = { x.f with bytes := x.f.bytes.take k, lasts := min x.f.lasts k }) (n : Int) :
    OpIs w S q (n, d1.turn s t) (.returned (.int .i64 n)) ((w2.setCell ⟨x.blk, 0, none⟩ (.slice oa k k)).setCell ⟨x.blk, 1, none⟩ (.int .i64 v)) := by
  subst hv
  have hx := h2.each x (by simp)
  have hset : Only (fun k => k = x.blk) w2 ((w2.setCell ⟨x.blk, 0, none⟩ (.slice oa k k)).setCell ⟨x.blk, 1, none⟩ (.int .i64 ((min x.f.lasts k : Nat) : Int))) :=
    (only_setCell (fun k => k = x.blk) w2 x.blk 0 _ rfl).trans (only_setCell (fun k => k = x.blk) _ x.blk 1 _ rfl) (fun _ _ h => h)
  have hown : (Value.slice oa k k).ownBlock = x.bv.ownBlock := by
    rw [hbv]
    cases oa with
    | none => rfl
    | some a => rfl
  have hrow := hx.row
  rw [hbv] at hrow
  have hr2 := hrow.cap k hk
  rw [Nat.mul_one, byteCells_take] at hr2
  have hlen : (x.f.bytes.take k).length = k := by rw [List.length_take]; omega
  refine file_done (x' := ⟨{ x.f with bytes := x.f.bytes.take k, lasts := min x.f.lasts k }, x.blk, .slice oa k k⟩) ho h2 (hset.mono (fun i _ hi => by rw [hi]; simp [Fl.blocks])) rfl rfl ⟨?_, ?_, ?_, ?_⟩ (fun i hi => .inl (by rw [← hown]; exact hi)) hs ht.symm n
  · exact heap_setCell_here _ (heap_setCell_here (w := w2) _ hx.cells)
  · show rowAt _ _ 1 _ (x.f.bytes.take k).length (byteCells (x.f.bytes.take k))
    rw [hlen]
    exact hr2.kept (fun i hi => hset.block i (hr2.lt i hi) (FlAt.own_ne h2 i (by rw [← hown]; exact hi)))
  · show min x.f.lasts k ≤ (x.f.bytes.take k).length
    omega
  · show (x.f.bytes.take k).length ≤ 16777216
    have := hx.size
    omega
set_option maxRecDepth 100000 in
set_option maxHeartbeats 1000000 in
theorem cut_b {w : World} {S : Nat → Prop} {q : Nat} {d : Dk} (h : DiskAt w S q d) (nm : ByteArray) (hs : nm.size ≤ maxLen) (n : Int) :
    Calls Try.prog 49 #[.pointer (some ⟨q, 0, none⟩), .string nm, .int .i64 n] w fun e w' => OpIs w S q (d.cut nm.data.toList n) e w' := by
  obtain ⟨mb, fv, L, h⟩ := h
  go_enter Try.func49, Try.ntmps49
  go_wp2_with fail
  refine (find_b h nm hs).mono ?_
  rintro e w' ⟨hF, rfl⟩
  rcases hF with ⟨hn, rfl⟩ | ⟨hn, hf, rfl⟩ | ⟨hn, A, x, B, rfl, hxn, hxt, hf, rfl⟩
  · have HO : Hid (OpIs w' S q (d.cut nm.data.toList n) (.returned (.int .i64 2)) w') := Lib.hid (by
      rw [show d.cut nm.data.toList n = (2, d) by simp [Dk.cut, hn]]
      exact OpIs.same h 2)
    clear h hn
    go_wp2_with fail
    go_ret
    exact HO.out
  · have HO : Hid (OpIs w' S q (d.cut nm.data.toList n) (.returned (.int .i64 171)) w') := Lib.hid (by
      rw [show d.cut nm.data.toList n = (171, d) by simp [Dk.cut, hn, hf]]
      exact OpIs.same h 171)
    clear h hn hf
    go_wp2_with fail
    go_ret
    exact HO.out
  · have hx0 := h.each x (by simp)
    obtain ⟨oaf, cf, hbv, hnc⟩ := hx0.row.shape
    obtain ⟨N, hnn⟩ : ∃ N, x.f.bytes.length = N := ⟨_, rfl⟩
    obtain ⟨l, hll⟩ : ∃ l, x.f.lasts = l := ⟨_, rfl⟩
    have hxc := hx0.cells
    rw [hbv, hnn] at hxc
    have k0 : w'.cell? ⟨x.blk, 0, none⟩ = some (.slice oaf N cf) := cell_of hxc rfl
    have HBV := Lib.hid (And.intro hbv (And.intro hnn hll))
    have H := Lib.hid h
    have HN := Lib.hid (And.intro hn hf)
    clear h hn hf hxc hx0 hbv hnn hnc hll
    by_cases hbad : n < 0 ∨ (N : Int) < n
    · have HO : Hid (OpIs w' S q (d.cut nm.data.toList n) (.returned (.int .i64 4)) w') := Lib.hid (by
        rw [show d.cut nm.data.toList n = (4, d) by simp [Dk.cut, HN.out.1, HN.out.2, HBV.out.2.1, hbad]]
        exact OpIs.same H.out 4)
      by_cases e1 : n < 0
      · go_wp2_with fail
        go_ret
        exact HO.out
      · have e2 : (N : Int) < n := by omega
        go_wp2_with fail
        go_ret
        exact HO.out
    · obtain ⟨ν, rfl⟩ : ∃ ν : Nat, n = (ν : Int) := ⟨n.toNat, by omega⟩
      have hνN : ν ≤ N := by omega
      have d1 : decide ((ν : Int) < 0) = false := by simp
      have d2 : decide ((N : Int) < (ν : Int)) = false := by simp; omega
      go_wp2_with fail
      refine (step_b H.out).mono ?_
      rintro e w1 ⟨kd, kp, fv', rfl, hkp, h1, ho1⟩
      obtain ⟨er, her⟩ : ∃ er, d.fate.1 = er := ⟨_, rfl⟩
      rw [her]
      have H1 := Lib.hid h1
      have HO1 := Lib.hid ho1
      have HE := Lib.hid her
      clear h1 ho1 hkp her k0 d1 d2
      go_upto_region 7 with fail
      obtain ⟨w2, hw2⟩ : ∃ w2 : World, w2 = w1.alloc (.cells #[.int .i64 kd, .int .i64 kp] 99) := ⟨_, rfl⟩
      obtain ⟨r, hr⟩ : ∃ r, r = w1.heap.size := ⟨_, rfl⟩
      have h2 : DiskIs w2 S q mb fv' (A ++ x :: B) d.next := by rw [hw2]; exact H1.out.below ((Below.refl _ _).alloc (Nat.le_refl _) _)
      have ho2 : Only (fun k => k = q) w' w2 := by rw [hw2]; exact HO1.out.trans (only_alloc (fun k => k = q) _ _) (fun _ _ h => h)
      rw [← hw2, ← hr]
      clear hw2 hr H1 HO1
      by_cases h0 : er = 0
      · subst h0
        have hx := h2.each x (by simp)
        have hxc := hx.cells
        have hxr := hx.row
        rw [HBV.out.1, HBV.out.2.1, HBV.out.2.2] at hxc
        rw [HBV.out.1, HBV.out.2.1] at hxr
        obtain ⟨hm0, hNc⟩ := hxr.map0
        have hsl : ∀ W : World, (Instr.slice 79 (.slice oaf N cf) none (some (.int .i64 (ν : Int))) (some (.int .i64 (ν : Int)))).run Try.prog W = .ok (.slice oaf ν ν) W := fun W => run_both oaf N cf ν (by omega) hm0 W
        have k0 : w2.cell? ⟨x.blk, 0, none⟩ = some (.slice oaf N cf) := cell_of hxc rfl
        have z0 : w2.frozen? ⟨x.blk, 0, none⟩ = false := free_of hxc _
        have hc3 := heap_setCell_here (i := 0) (.slice oaf ν ν) hxc
        have k1 : (w2.setCell ⟨x.blk, 0, none⟩ (.slice oaf ν ν)).cell? ⟨x.blk, 1, none⟩ = some (.int .i64 l) := cell_of hc3 rfl
        have z1 : (w2.setCell ⟨x.blk, 0, none⟩ (.slice oaf ν ν)).frozen? ⟨x.blk, 1, none⟩ = false := free_of hc3 _
        have HO : Hid (∀ v : Int, v = ((min l ν : Nat) : Int) → OpIs w' S q (d.cut nm.data.toList ν) (.returned (.int .i64 0)) ((w2.setCell ⟨x.blk, 0, none⟩ (.slice oaf ν ν)).setCell ⟨x.blk, 1, none⟩ (.int .i64 v))) := Lib.hid (fun v hv => by
          have h3 := set_cut ho2 h2 (oa := oaf) (c := cf) (k := ν) HBV.out.1 (by rw [HBV.out.2.1]; exact hνN) (v := v) (by rw [HBV.out.2.2]; exact hv) (s := nm.data.toList) (t := fun f => { f with bytes := f.bytes.take ν, lasts := min f.lasts ν }) hxn rfl 0
          have hb' : ¬ ((ν : Int) < 0 ∨ (N : Int) < (ν : Int)) := hbad
          have e : d.cut nm.data.toList ν = (0, d.next.turn nm.data.toList fun f => { f with bytes := f.bytes.take ν, lasts := min f.lasts ν }) := by
            unfold Dk.cut
            rw [HN.out.1, HN.out.2]
            simp only [HBV.out.2.1, HE.out]
            rw [if_neg (by simp), if_neg hb', if_neg (by simp)]
            rfl
          rw [e]
          exact h3)
        clear h2 ho2 hx hxc hxr hm0 hc3
        go_wp2_with fail
        all_goals (go_ret; refine HO.out _ ?_; omega)
      · have hb0 : (er != 0) = true := by simpa using h0
        have HO : Hid (OpIs w' S q (d.cut nm.data.toList ν) (.returned (.int .i64 er)) w2) := Lib.hid (by
          rw [show d.cut nm.data.toList ν = (er, d.next) by
            unfold Dk.cut
            rw [HN.out.1, HN.out.2]
            simp only [HBV.out.2.1, HE.out]
            rw [if_neg (by simp), if_neg hbad, if_pos h0]]
          exact OpIs.next ho2 h2 er)
        clear h0 h2 ho2
        go_wp2_with fail
        go_ret
        exact HO.out
end Go.Proofs.Ytmkjejngnahpeaa
/- Disk: Steps. -/
namespace Go.Proofs.Ytmkjejngnahpeaa
open Go Go.Maps Go.RowKit

set_option maxHeartbeats 400000 in
theorem steps_b {w : World} {S : Nat → Prop} {q : Nat} {d : Dk} (h : DiskAt w S q d) :
    Calls Try.prog 44 #[.pointer (some ⟨q, 0, none⟩)] w fun e w' => e = .returned (.tuple #[.int .i64 d.steps, .int .i64 d.fates.length]) ∧ Below w.heap.size w w' := by
  obtain ⟨mb, fv, L, h⟩ := h
  obtain ⟨oa, cap, rfl, _⟩ := h.fates.shape
  obtain ⟨st, hst⟩ : ∃ st, d.steps = st := ⟨_, rfl⟩
  obtain ⟨n, hn⟩ : ∃ n, d.fates.length = n := ⟨_, rfl⟩
  have hh := h.head
  rw [hst, hn] at hh
  have c1 : w.cell? ⟨q, 1, none⟩ = some (.slice oa n cap) := cell_of hh rfl
  have c2 : w.cell? ⟨q, 2, none⟩ = some (.int .i64 st) := cell_of hh rfl
  rw [hst, hn]
  have H := Lib.hid h
  clear h hh hst hn
  go_enter Try.func44, Try.ntmps44
  go_wp2_with fail
  refine (none_b H.out).mono ?_
  rintro e w' ⟨rfl, rfl⟩
  go_upto_region 3 with fail
  go_region
  go_wp2_with fail
  go_ret2
  exact ⟨rfl, ⟨rfl, rfl, rfl, Nat.le_refl _, fun _ _ => rfl⟩⟩
end Go.Proofs.Ytmkjejngnahpeaa
/- Disk: Remove. -/
namespace Go.Proofs.Ytmkjejngnahpeaa
open Go Go.Maps Go.RowKit

section
variable {w : World} {S : Nat → Prop} {q mb : Nat} {fv : Value} {d : Dk}
/-- a file is struck -/
theorem DiskIs.file_drop {w' : World} {A B : List Fl} {x : Fl} {n' : Nat} {D' : DataW Unit} {fs : List F0} (h : DiskIs w S q mb fv (A ++ x :: B) d) (ho : Only (fun k => k = mb) w w')
    (hm : w'.ownsMap Try.prog 9 ptrElem mb n' D') (hd : Dic D' ((A ++ B).map fun x => (x.f.name, x.blk))) (hfs : fs = A.map (·.f) ++ B.map (·.f)) : DiskIs w' S q mb fv (A ++ B) { d with files := fs } := by
  have hp := blocks_perm q mb fv A x B
  have hnd := (List.nodup_append.1 (hp.nodup_iff.1 h.apart)).2.1
  have hin : ∀ k ∈ diskBlocks q mb fv (A ++ B), S k := fun k hk => h.foot k (hp.mem_iff.2 (List.mem_append_right _ hk))
  have hne : ∀ k ∈ diskBlocks q mb fv (A ++ B), k ≠ mb → w'.heap[k]? = w.heap[k]? := fun k hk hk' => ho.block k (h.low k (hin k hk)) hk'
  have hap := hnd
  simp only [diskBlocks, List.nodup_cons, List.mem_cons, not_or] at hap
  have hmb : ∀ k, k ∈ fv.ownBlock.toList ++ (A ++ B).flatMap Fl.blocks → k ≠ mb := fun k hk e => hap.2.1 (e ▸ hk)
  have hfl : d.files = A.map (·.f) ++ x.f :: B.map (·.f) := by rw [← h.files]; simp
  have hsub : fs.Sublist d.files := by
    rw [hfs, hfl]
    exact List.Sublist.append_left (List.sublist_cons_self _ _) _
  have hs2 : (fs.map (·.name)).Pairwise (· < ·) := h.sorted.sublist (hsub.map _)
  exact {
    files := by rw [hfs]; simp
    head := (hne q (by simp [diskBlocks]) (fun e => hap.1.1 e)).trans h.head
    fates := h.fates.kept (fun k hk => hne k (by simp [diskBlocks, hk]) (hmb k (by simp [hk])))
    map := by
      refine ⟨D', ?_, hd⟩
      have h1 := ownsMap_tight hm
      rw [hd.size hm (by
        rw [List.map_map]
        have : ((A ++ B).map (·.f.name)).Pairwise (· < ·) := by rw [hfs] at hs2; simpa [Function.comp_def] using hs2
        exact this.imp (fun {a b} hab he => by rw [he] at hab; exact List.lt_irrefl _ hab))] at h1
      simpa using h1
    each := fun y hy => (h.each y (by
      rcases List.mem_append.1 hy with h1 | h1
      · simp [h1]
      · simp [h1])).kept (fun k hk => by
        have h1 : k ∈ fv.ownBlock.toList ++ (A ++ B).flatMap Fl.blocks := List.mem_append_right _ (List.mem_flatMap.2 ⟨y, hy, hk⟩)
        exact hne k (by simp only [diskBlocks, List.mem_cons]; exact .inr (.inr h1)) (hmb k h1))
    apart := hnd
    foot := hin
    low := fun k hk => Nat.lt_of_lt_of_le (h.low k hk) ho.size
    sorted := hs2
    names := fun f hf => h.names f (hsub.subset hf)
    few := Nat.le_trans hsub.length_le h.few }
end
def Dk.remove (d : Dk) (s : List UInt8) : Int × Dk :=
  if nameOk s = false then (2, d)
  else match d.find s with
    | none => (171, d)
    | some f => if d.fate.1 ≠ 0 then (d.fate.1, d.next)
      else if f.named = true then (0, d.next.turn s fun f => { f with bytes := f.bytes.take f.lasts, there := false })
      else (0, { d.next with files := d.files.filter fun f => f.name != s })
end Go.Proofs.Ytmkjejngnahpeaa
/- Disk: Remove, the call. -/
namespace Go.Proofs.Ytmkjejngnahpeaa
open Go Go.Maps Go.RowKit

theorem filter_list {A B : List Fl} {x : Fl} {d : Dk} {s : List UInt8} (hf : (A ++ x :: B).map (·.f) = d.files) (hs : (d.files.map (·.name)).Pairwise (· < ·)) (hx : x.f.name = s) :
    (d.files.filter fun f => f.name != s) = A.map (·.f) ++ B.map (·.f) ∧ (∀ y ∈ A ++ B, y.f.name ≠ s) := by
  have hnd : (d.files.map (·.name)).Nodup := hs.imp (fun {a b} hab he => by rw [he] at hab; exact List.lt_irrefl _ hab)
  rw [← hf, List.map_append, List.map_cons, List.map_append, List.map_cons] at hnd
  have h2 := List.nodup_append.1 hnd
  have hA : ∀ y ∈ A, y.f.name ≠ s := fun y hy he => h2.2.2 y.f.name (List.mem_map_of_mem (List.mem_map_of_mem hy)) x.f.name (by simp) (by rw [he, hx])
  have hB : ∀ y ∈ B, y.f.name ≠ s := fun y hy he => (List.nodup_cons.1 h2.2.1).1 (by rw [hx, ← he]; exact List.mem_map_of_mem (List.mem_map_of_mem hy))
  refine ⟨?_, fun y hy => ?_⟩
  · rw [← hf, List.map_append, List.map_cons, List.filter_append, List.filter_cons]
    have hxs : (x.f.name != s) = false := by simp [hx]
    rw [hxs]
    have e1 : (A.map (·.f)).filter (fun f => f.name != s) = A.map (·.f) := List.filter_eq_self.2 (fun f hf' => by
      obtain ⟨y, hy, rfl⟩ := List.mem_map.1 hf'
      simpa using hA y hy)
    have e2 : (B.map (·.f)).filter (fun f => f.name != s) = B.map (·.f) := List.filter_eq_self.2 (fun f hf' => by
      obtain ⟨y, hy, rfl⟩ := List.mem_map.1 hf'
      simpa using hB y hy)
    rw [e1, e2]
    rfl
  · rcases List.mem_append.1 hy with h | h
    · exact hA y h
    · exact hB y h
/-- a file is struck from the map -/
theorem set_drop {w w2 w3 : World} {S : Nat → Prop} {q mb n' : Nat} {fv' : Value} {A B : List Fl} {x : Fl} {d d1 : Dk} {D : DataW Unit} {s : List UInt8} (ho : Only (fun k => k = q) w w2) (h2 : DiskIs w2 S q mb fv' (A ++ x :: B) d1) (hd : Dic D ((A ++ x :: B).map fun x => (x.f.name, x.blk)))
    (ht : w2.mapTurned w3 mb) (hm : w3.ownsMap Try.prog 9 ptrElem mb n' (D.del (.string s))) (hx : x.f.name = s) (hf : d.files = d1.files) :
    OpIs w S q (0, { d1 with files := d.files.filter fun f => f.name != s }) (.returned (.int .i64 0)) w3 := by
  obtain ⟨e1, e2⟩ := filter_list h2.files h2.sorted hx
  rw [hf, e1]
  have ho3 : Only (fun k => k = mb) w2 w3 := Only.of_grown (S := fun k => k = mb) ht.grown (fun k hk => by simp at hk; exact hk.symm)
  have hd2 : Dic (D.del (.string s)) ((A ++ B).map fun x => (x.f.name, x.blk)) := hd.del s (fun f => by
    constructor
    · intro h
      obtain ⟨y, hy, rfl⟩ := List.mem_map.1 h
      refine ⟨List.mem_map.2 ⟨y, ?_, rfl⟩, e2 y hy⟩
      rcases List.mem_append.1 hy with h1 | h1
      · simp [h1]
      · simp [h1]
    · rintro ⟨h, hne⟩
      obtain ⟨y, hy, rfl⟩ := List.mem_map.1 h
      refine List.mem_map.2 ⟨y, ?_, rfl⟩
      rcases List.mem_append.1 hy with h1 | h1
      · simp [h1]
      · rcases List.mem_cons.1 h1 with rfl | h1
        · exact absurd hx hne
        · simp [h1])
  have h4 := h2.file_drop ho3 hm hd2 rfl
  refine ⟨rfl, ⟨mb, fv', _, h4.wider (fun k hk => .inl hk) (fun k hk => ?_)⟩, ?_⟩
  · rcases hk with hk | hk
    · exact Nat.lt_of_lt_of_le (h2.low k hk) ho3.size
    · exact hk.2
  · exact (ho.mono (fun i _ hi => by rw [hi]; exact h2.q_mem)).trans ho3 (fun i _ hi => by rw [hi]; exact h2.foot _ (by simp [diskBlocks]))
end Go.Proofs.Ytmkjejngnahpeaa
/- Disk: Remove, its walk. -/
namespace Go.Proofs.Ytmkjejngnahpeaa
open Go Go.Maps Go.RowKit

/-- a file with a lasting name is taken away -/
theorem set_gone {w w2 : World} {S : Nat → Prop} {q mb : Nat} {fv' : Value} {A B : List Fl} {x : Fl} {d1 : Dk} (ho : Only (fun k => k = q) w w2) (h2 : DiskIs w2 S q mb fv' (A ++ x :: B) d1) {oa : Option Addr} {c l : Nat} (hbv : x.bv = .slice oa x.f.bytes.length c) (hl : x.f.lasts = l)
    {s : List UInt8} {t : F0 → F0} (hs : x.f.name = s) (ht : t x.f = { x.f with bytes := x.f.bytes.take x.f.lasts, there := false }) (n : Int) :
    OpIs w S q (n, d1.turn s t) (.returned (.int .i64 n)) ((w2.setCell ⟨x.blk, 2, none⟩ (.bool false)).setCell ⟨x.blk, 0, none⟩ (.slice oa l l)).drew := by
  subst hl
  have hx := h2.each x (by simp)
  have hset : Only (fun k => k = x.blk) w2 ((w2.setCell ⟨x.blk, 2, none⟩ (.bool false)).setCell ⟨x.blk, 0, none⟩ (.slice oa x.f.lasts x.f.lasts)).drew :=
    only_drew ((only_setCell (fun k => k = x.blk) w2 x.blk 2 _ rfl).trans (only_setCell (fun k => k = x.blk) _ x.blk 0 _ rfl) (fun _ _ h => h))
  have hown : (Value.slice oa x.f.lasts x.f.lasts).ownBlock = x.bv.ownBlock := by
    rw [hbv]
    cases oa with
    | none => rfl
    | some a => rfl
  have hrow := hx.row
  rw [hbv] at hrow
  have hr2 := hrow.cap x.f.lasts hx.lasts
  rw [Nat.mul_one, byteCells_take] at hr2
  have hlen : (x.f.bytes.take x.f.lasts).length = x.f.lasts := by have := hx.lasts; rw [List.length_take]; omega
  refine file_done (x' := ⟨{ x.f with bytes := x.f.bytes.take x.f.lasts, there := false }, x.blk, .slice oa x.f.lasts x.f.lasts⟩) ho h2 (hset.mono (fun i _ hi => by rw [hi]; simp [Fl.blocks])) rfl rfl ⟨?_, ?_, ?_, ?_⟩ (fun i hi => .inl (by rw [← hown]; exact hi)) hs ht.symm n
  · exact heap_setCell_here (w := w2.setCell ⟨x.blk, 2, none⟩ (.bool false)) _ (heap_setCell_here (w := w2) _ hx.cells)
  · show rowAt _ _ 1 _ (x.f.bytes.take x.f.lasts).length (byteCells (x.f.bytes.take x.f.lasts))
    rw [hlen]
    exact hr2.kept (fun i hi => hset.block i (hr2.lt i hi) (FlAt.own_ne h2 i (by rw [← hown]; exact hi)))
  · show x.f.lasts ≤ (x.f.bytes.take x.f.lasts).length
    omega
  · show (x.f.bytes.take x.f.lasts).length ≤ 16777216
    have := hx.size
    have := hx.lasts
    omega
set_option maxRecDepth 100000 in
set_option maxHeartbeats 1000000 in
theorem remove_b {w : World} {S : Nat → Prop} {q : Nat} {d : Dk} (h : DiskAt w S q d) (nm : ByteArray) (hs : nm.size ≤ maxLen) :
    Calls Try.prog 50 #[.pointer (some ⟨q, 0, none⟩), .string nm] w fun e w' => OpIs w S q (d.remove nm.data.toList) e w' := by
  obtain ⟨mb, fv, L, h⟩ := h
  go_enter Try.func50, Try.ntmps50
  go_wp2_with fail
  refine (find_b h nm hs).mono ?_
  rintro e w' ⟨hF, rfl⟩
  rcases hF with ⟨hn, rfl⟩ | ⟨hn, hf, rfl⟩ | ⟨hn, A, x, B, rfl, hxn, hxt, hf, rfl⟩
  · have HO : Hid (OpIs w' S q (d.remove nm.data.toList) (.returned (.int .i64 2)) w') := Lib.hid (by
      rw [show d.remove nm.data.toList = (2, d) by simp [Dk.remove, hn]]
      exact OpIs.same h 2)
    clear h hn
    go_wp2_with fail
    go_ret
    exact HO.out
  · have HO : Hid (OpIs w' S q (d.remove nm.data.toList) (.returned (.int .i64 171)) w') := Lib.hid (by
      rw [show d.remove nm.data.toList = (171, d) by simp [Dk.remove, hn, hf]]
      exact OpIs.same h 171)
    clear h hn hf
    go_wp2_with fail
    go_ret
    exact HO.out
  · have H := Lib.hid h
    have HN := Lib.hid (And.intro hn hf)
    clear h hn hf
    go_wp2_with fail
    refine (step_b H.out).mono ?_
    rintro e w1 ⟨kd, kp, fv', rfl, hkp, h1, ho1⟩
    obtain ⟨er, her⟩ : ∃ er, d.fate.1 = er := ⟨_, rfl⟩
    rw [her]
    have H1 := Lib.hid h1
    have HO1 := Lib.hid ho1
    have HE := Lib.hid her
    clear h1 ho1 hkp her
    go_upto_region 5 with fail
    obtain ⟨w2, hw2⟩ : ∃ w2 : World, w2 = w1.alloc (.cells #[.int .i64 kd, .int .i64 kp] 99) := ⟨_, rfl⟩
    obtain ⟨r, hr⟩ : ∃ r, r = w1.heap.size := ⟨_, rfl⟩
    have h2 : DiskIs w2 S q mb fv' (A ++ x :: B) d.next := by rw [hw2]; exact H1.out.below ((Below.refl _ _).alloc (Nat.le_refl _) _)
    have ho2 : Only (fun k => k = q) w' w2 := by rw [hw2]; exact HO1.out.trans (only_alloc (fun k => k = q) _ _) (fun _ _ h => h)
    rw [← hw2, ← hr]
    clear hw2 hr H1 HO1
    by_cases h0 : er = 0
    · subst h0
      have hx := h2.each x (by simp)
      have hxc := hx.cells
      obtain ⟨nd, hnd⟩ : ∃ nd, x.f.named = nd := ⟨_, rfl⟩
      have k3 : w2.cell? ⟨x.blk, 3, none⟩ = some (.bool nd) := by rw [← hnd]; exact cell_of hxc rfl
      cases nd with
      | false =>
        have c0 : w2.cell? ⟨q, 0, none⟩ = some (.map (some mb)) := cell_of h2.head rfl
        obtain ⟨D, hown, hdsz, hdic⟩ := h2.look
        have HOWN := Lib.hid (And.intro hown hdic)
        have HKEY : Hid (keyOf Try.prog 9 (.string nm) = some (.string nm.data.toList)) := Lib.hid (WideMaps.keyOf_string_mk (P := Try.prog) Try.underlying9 hs)
        have H2 := Lib.hid h2
        have HO2 := Lib.hid ho2
        have HND := Lib.hid hnd
        clear h2 ho2 hx hxc hown hdsz hdic hnd
        go_wp2_with (at_delete; refine wpList_delete_own _ rfl _ _ 120 9 rfl 176 (string_keyed Try.underlying9) Try.underlying120 ptrElem mb _ D rfl HOWN.out.1 _ _ rfl HKEY.out ?_; intro w3 hown3 hturn3; have HW3 := Lib.hid (And.intro hown3 hturn3); clear hown3 hturn3)
        go_ret
        have h3 := set_drop (d := d) HO2.out H2.out HOWN.out.2 HW3.out.2 HW3.out.1 hxn rfl
        have e : d.remove nm.data.toList = (0, { d.next with files := d.files.filter fun f => f.name != nm.data.toList }) := by
          unfold Dk.remove
          rw [HN.out.1, HN.out.2]
          simp only [HE.out, HND.out]
          rw [if_neg (by simp), if_neg (by simp), if_neg (by simp)]
        rw [e]
        exact h3
      | true =>
        obtain ⟨oaf, cf, hbv, hnc⟩ := hx.row.shape
        obtain ⟨N, hnn⟩ : ∃ N, x.f.bytes.length = N := ⟨_, rfl⟩
        obtain ⟨l, hll⟩ : ∃ l, x.f.lasts = l := ⟨_, rfl⟩
        have hlN : l ≤ N := by rw [← hnn, ← hll]; exact hx.lasts
        have hxr := hx.row
        rw [hbv, hnn] at hxr
        obtain ⟨hm0, hNc⟩ := hxr.map0
        rw [hbv, hnn, hll, hxt, hnd] at hxc
        have hsl : ∀ W : World, (Instr.slice 79 (.slice oaf N cf) none (some (.int .i64 (l : Int))) (some (.int .i64 (l : Int)))).run Try.prog W = .ok (.slice oaf l l) W := fun W => run_both oaf N cf l (by omega) hm0 W
        have k2 : w2.cell? ⟨x.blk, 2, none⟩ = some (.bool true) := cell_of hxc rfl
        have z2 : w2.frozen? ⟨x.blk, 2, none⟩ = false := free_of hxc _
        have HO : Hid (OpIs w' S q (d.remove nm.data.toList) (.returned (.int .i64 0)) ((w2.setCell ⟨x.blk, 2, none⟩ (.bool false)).setCell ⟨x.blk, 0, none⟩ (.slice oaf l l)).drew) := Lib.hid (by
          have h3 := set_gone ho2 h2 (oa := oaf) (c := cf) hbv hll (s := nm.data.toList) (t := fun f => { f with bytes := f.bytes.take f.lasts, there := false }) hxn rfl 0
          have e : d.remove nm.data.toList = (0, d.next.turn nm.data.toList fun f => { f with bytes := f.bytes.take f.lasts, there := false }) := by
            unfold Dk.remove
            rw [HN.out.1, HN.out.2]
            simp only [HE.out, hnd]
            rw [if_neg (by simp), if_neg (by simp), if_pos trivial]
          rw [e]
          exact h3)
        have hc3 := heap_setCell_here (i := 2) (.bool false) hxc
        clear h2 ho2 hx hxr hm0 hbv hnn hll hnc hnd
        go_upto_region 11 with fail
        obtain ⟨w3, hw3⟩ : ∃ w3 : World, w3 = w2.setCell ⟨x.blk, 2, none⟩ (.bool false) := ⟨_, rfl⟩
        rw [← hw3] at HO hc3 ⊢
        have k0 : w3.cell? ⟨x.blk, 0, none⟩ = some (.slice oaf N cf) := cell_of hc3 rfl
        have z0 : w3.frozen? ⟨x.blk, 0, none⟩ = false := free_of hc3 _
        have k1 : w3.cell? ⟨x.blk, 1, none⟩ = some (.int .i64 l) := cell_of hc3 rfl
        clear hw3 hc3 hxc k2 z2 k3
        go_region
        go_wp2_with fail
        go_ret
        exact HO.out
    · have hb0 : (er != 0) = true := by simpa using h0
      have HO : Hid (OpIs w' S q (d.remove nm.data.toList) (.returned (.int .i64 er)) w2) := Lib.hid (by
        rw [show d.remove nm.data.toList = (er, d.next) by
          unfold Dk.remove
          rw [HN.out.1, HN.out.2]
          simp only [HE.out]
          rw [if_neg (by simp), if_pos h0]]
        exact OpIs.next ho2 h2 er)
      clear h0 h2 ho2
      go_wp2_with fail
      go_ret
      exact HO.out
end Go.Proofs.Ytmkjejngnahpeaa
/- Disk: are fates such as may be. -/
namespace Go.Proofs.Ytmkjejngnahpeaa
open Go Go.Maps Go.RowKit

def badFate (x : Int × Int) : Bool := decide (x.1 < 0) || decide (2 < x.1)
set_option maxRecDepth 100000 in
set_option maxHeartbeats 400000 in
theorem badFate_b (k n : Int) (w : World) : Calls Try.prog 144 #[.agg #[.int .i64 k, .int .i64 n]] w fun e w' => e = .returned (.bool (badFate (k, n))) ∧ Below w.heap.size w w' := by
  go_enter Try.func144, Try.ntmps144
  go_upto_region 1 with fail
  obtain ⟨w1, hw1⟩ : ∃ w1 : World, w1 = w.alloc (.cells #[.int .i64 k, .int .i64 n] 99) := ⟨_, rfl⟩
  obtain ⟨r, hr⟩ : ∃ r, r = w.heap.size := ⟨_, rfl⟩
  have hr1 : w1.heap[r]? = some (.cells #[.int .i64 k, .int .i64 n] 99 (0, 0)) := by rw [hw1, hr]; exact alloc_cells _ _ _
  have HB : Hid (Below w.heap.size w w1) := Lib.hid (by rw [hw1]; exact (Below.refl _ _).alloc (Nat.le_refl _) _)
  rw [← hr, ← hw1]
  clear hw1 hr
  have c0 : w1.cell? ⟨r, 0, none⟩ = some (.int .i64 k) := cell_of hr1 rfl
  by_cases h1 : k < 0
  · have d1 : decide (k < 0) = true := by simpa using h1
    have HV : Hid (badFate (k, n) = true) := Lib.hid (by simp [badFate, h1])
    clear h1
    go_wp2_with fail
    go_ret
    exact ⟨by rw [HV.out]; rfl, HB.out⟩
  · have d1 : decide (k < 0) = false := by simpa using h1
    have HV : Hid (badFate (k, n) = decide (2 < k)) := Lib.hid (by simp [badFate]; omega)
    clear h1
    go_wp2_with fail
    go_ret
    exact ⟨by rw [HV.out]; rfl, HB.out⟩
theorem fate_cells (l : List (Int × Int)) (k : Nat) (h : k < l.length) : (fateCells l)[2 * k]? = some (.int .i64 l[k].1) ∧ (fateCells l)[2 * k + 1]? = some (.int .i64 l[k].2) := by
  induction l generalizing k with
  | nil => simp at h
  | cons x r ih =>
    cases k with
    | zero => exact ⟨rfl, rfl⟩
    | succ k =>
      have := ih k (by simpa using h)
      rw [fateCells_cons, show 2 * (k + 1) = 2 * k + 1 + 1 by omega]
      simpa using this
set_option maxRecDepth 100000 in
set_option maxHeartbeats 400000 in
theorem indexFate_b {w : World} {oa : Option Addr} {n c : Nat} {l : List (Int × Int)} (hn : l.length = n) (h : readAt w 2 (.slice oa n c) n (fateCells l)) (hm : n ≤ 1000000000) :
    Calls Try.prog 168 #[.slice oa n c, .func (.func 144) #[] #[]] w fun e w' => ∃ i : Int, e = .returned (.int .i64 i) ∧ (l.any badFate = false → i = -1) ∧ (l.any badFate = true → 0 ≤ i) ∧ Below w.heap.size w w' := by
  have H := Lib.hid h
  clear h
  go_enter Try.func168, Try.ntmps168
  go_wp2_with fail
  go_loopw [8] (fun i wr => ∃ k : Nat, k ≤ n ∧ i = .int .i64 k ∧ (l.take k).any badFate = false ∧ Below w.heap.size w wr) (fun i _ => n - (intOf i).toNat)
  case atStart => exact ⟨0, Nat.zero_le _, rfl, by simp, Below.refl _ _⟩
  case round =>
    obtain ⟨k, hk, rfl, hge, hbr⟩ := hrel
    by_cases hlt : k < n
    · obtain ⟨g, off, rfl⟩ := H.out.addr (by omega)
      obtain ⟨x, hx⟩ : ∃ x, l[k]'(by omega) = x := ⟨_, rfl⟩
      have hfc := fate_cells l k (by omega)
      rw [hx] at hfc
      have hgl := H.out.lt (by omega) g rfl
      have hc0 : wr.cell? ⟨g, off + k * 2, none⟩ = some (.int .i64 x.1) := by
        have h1 := H.out.cells (g := g) (off := off) rfl (2 * k) _ hfc.1
        rw [Go.WideShapes.add_plain, Nat.mul_comm] at h1
        rw [← h1]
        exact cell_kept_at (hbr.block g hgl)
      have hc1 : wr.cell? ⟨g, off + k * 2 + 1, none⟩ = some (.int .i64 x.2) := by
        have h1 := H.out.cells (g := g) (off := off) rfl (2 * k + 1) _ hfc.2
        rw [Go.WideShapes.add_plain, Nat.mul_comm, ← Nat.add_assoc] at h1
        rw [← h1]
        exact cell_kept_at (hbr.block g hgl)
      have HX : Hid (badFate x = false → (l.take (k + 1)).any badFate = false) := Lib.hid fun h0 => by
        rw [List.take_succ_eq_append_getElem (by omega), List.any_append, hge, hx]
        simp [h0]
      have HY : Hid (badFate x = true → l.any badFate = true) := Lib.hid fun h0 => List.any_eq_true.2 ⟨x, by rw [← hx]; exact List.getElem_mem _, h0⟩
      have HBR := Lib.hid hbr
      obtain ⟨x1, x2⟩ := x
      clear hge hx hfc hbr hgl
      go_wp2_with (go_at_call 144; refine (badFate_b x1 x2 _).mono ?_; rintro e w' ⟨rfl, hb'⟩; have HB' := Lib.hid hb'; clear hb')
      · go_ret
        exact ⟨_, rfl, fun ha => (by rw [HY.out (by assumption)] at ha; cases ha), fun _ => by omega, HBR.out.trans (HB'.out.mono HBR.out.size)⟩
      · exact ⟨⟨k + 1, by omega, by simp, HX.out (by assumption), HBR.out.trans (HB'.out.mono HBR.out.size)⟩, by simp [intOf]; omega⟩
    · obtain rfl : k = n := by omega
      have HA : Hid (l.any badFate = false) := Lib.hid (by rwa [List.take_of_length_le (by omega)] at hge)
      have HBR := Lib.hid hbr
      clear hge hbr
      go_wp2_with fail
      go_ret
      exact ⟨_, rfl, fun _ => rfl, fun h => (by rw [HA.out] at h; cases h), HBR.out⟩
end Go.Proofs.Ytmkjejngnahpeaa
/- Disk: are all fates right; a copy of fates. -/
namespace Go.Proofs.Ytmkjejngnahpeaa
open Go Go.Maps Go.RowKit

set_option maxHeartbeats 400000 in
theorem containsFate_b {w : World} {oa : Option Addr} {n c : Nat} {l : List (Int × Int)} (hn : l.length = n) (h : readAt w 2 (.slice oa n c) n (fateCells l)) (hm : n ≤ 1000000000) :
    Calls Try.prog 143 #[.slice oa n c, .func (.func 144) #[] #[]] w fun e w' => e = .returned (.bool (l.any badFate)) ∧ Below w.heap.size w w' := by
  go_enter Try.func143, Try.ntmps143
  go_wp2_with fail
  refine (indexFate_b hn h hm).mono ?_
  rintro e w1 ⟨i, rfl, h1, h2, hb⟩
  have hd : decide ((0 : Int) ≤ i) = l.any badFate := by
    cases hb : l.any badFate with
    | false =>
      have := h1 hb
      simp
      omega
    | true =>
      have := h2 hb
      simpa using this
  have HB := Lib.hid hb
  have HD := Lib.hid hd
  clear h h1 h2 hb hd
  go_wp2_with fail
  go_ret
  exact ⟨by rw [← HD.out]; rfl, HB.out⟩
set_option maxHeartbeats 400000 in
theorem right_b {w : World} {oa : Option Addr} {n c : Nat} {l : List (Int × Int)} (hn : l.length = n) (h : readAt w 2 (.slice oa n c) n (fateCells l)) (hm : n ≤ 1000000000) :
    Calls Try.prog 89 #[.slice oa n c] w fun e w' => e = .returned (.bool (!l.any badFate)) ∧ Below w.heap.size w w' := by
  go_enter Try.func89, Try.ntmps89
  go_wp2_with fail
  refine (containsFate_b hn h hm).mono ?_
  rintro e w1 ⟨rfl, hb⟩
  obtain ⟨b, hbb⟩ : ∃ b, l.any badFate = b := ⟨_, rfl⟩
  rw [hbb]
  have HB := Lib.hid hb
  have HBB := Lib.hid hbb
  clear h hb hbb
  go_wp2_with fail
  go_ret
  exact ⟨by rw [HBB.out]; rfl, HB.out⟩
theorem info_fate : (Try.prog.info? 99).map (fun i => (i.zero, i.size, i.bytes)) = some (some (.agg #[.int .i64 0, .int .i64 0]), 2, 16) := by kernel_rfl
theorem fateCells_one (l : List (Int × Int)) : ∀ v ∈ fateCells l, v.oneCell' = true := by
  intro v hv
  obtain ⟨x, _, hx⟩ := List.mem_flatMap.1 hv
  simp only [List.mem_cons, List.not_mem_nil, or_false] at hx
  rcases hx with rfl | rfl <;> rfl
theorem emptyRowF (w : World) (T : TypeId) (size : Nat) : hasRow (w.alloc (.cells #[] T)) w.heap.size T size (.slice (some ⟨w.heap.size, 0, none⟩) 0 0) 0 [] :=
  ⟨by simp, .inr ⟨_, 0, #[], (0, 0), rfl, Nat.le_refl _, heap_alloc_new _ _, Nat.le_refl _, Nat.zero_le _, by simp, fun j hj => by simp at hj, by simp⟩⟩
set_option maxRecDepth 100000 in
set_option maxHeartbeats 400000 in
theorem cloneFate_b {w : World} {oa : Option Addr} {n c : Nat} {l : List (Int × Int)} (hn : l.length = n) (h : readAt w 2 (.slice oa n c) n (fateCells l)) (hm : n ≤ 1000000000) :
    Calls Try.prog 90 #[.slice oa n c] w fun e w' => ∃ v, e = .returned v ∧ rowAt w' 99 2 v n (fateCells l) ∧ (∀ k, v.ownBlock = some k → w.heap.size ≤ k) ∧ Below w.heap.size w w' := by
  cases oa with
  | none =>
    rcases h.2 with ⟨h0, _, _, hv, hc0⟩ | ⟨g, off, c, hv, _⟩
    · simp only [Value.slice.injEq] at hv
      obtain ⟨rfl, -, rfl⟩ := hv
      obtain rfl := hc0 rfl
      subst h0
      have H := Lib.hid h
      refine (cloneFate_nil w).mono ?_
      rintro e w' ⟨rfl, rfl⟩
      exact ⟨_, rfl, ⟨H.out.1, .inl ⟨rfl, rfl⟩⟩, fun k hk => by simp [Value.ownBlock] at hk, Below.refl _ _⟩
    · simp at hv
  | some ad =>
    have hnil : ∀ W : World, (binOp .eql 65 (.slice (some ad) n c) (.slice none 0 0)).run Try.prog W = .ok (.bool false) W := fun W => by kernel_rfl
    have HS : Hid (Src Try.prog (w.alloc (.cells #[] 99)) 2 65 (.slice (some ad) n c) n (fateCells l)) := Lib.hid (Src.of_read Try.underlying65 (h.kept (fun k hl _ _ => Below.heap_alloc _ _ k hl)) (fateCells_one _))
    clear h
    go_enter Try.func90, Try.ntmps90
    go_wp2_with (at_builtin; refine wpList_append_at _ rfl (.tmp 5) (.tmp 6) 65 65 rfl 99 (.agg #[.int .i64 0, .int .i64 0]) 2 16 Try.underlying65 info_fate rfl _ 0 _ rfl (rowAt.of_row (emptyRowF w _ _)) _ n _ rfl HS.out (by unfold maxLen; omega) (by omega) ?_; intro v' w3 hr hg hown _; have HR := Lib.hid hr; have HG : Hid ((w.alloc (.cells #[] 99)).grownBy w3 (some w.heap.size)) := Lib.hid hg; have HOWN : Hid (v'.ownBlock = some w.heap.size ∨ v'.ownBlock = some (w.alloc (.cells #[] 99)).heap.size) := Lib.hid hown; clear hr hg hown)
    go_ret
    refine ⟨v', rfl, ?_, fun k hk => ?_, ?_⟩
    · have := HR.out
      rw [Nat.zero_add, List.nil_append] at this
      exact this
    · have h1 := HOWN.out
      rw [hk] at h1
      simp at h1
      omega
    · exact ((Below.refl _ _).alloc (Nat.le_refl _) _).grown HG.out (by simp) (fun k hk => by simp at hk; omega)
end Go.Proofs.Ytmkjejngnahpeaa
/- Disk: New, with any fates. -/
namespace Go.Proofs.Ytmkjejngnahpeaa
open Go Go.Maps Go.RowKit

theorem disk_newF {w w2 w3 : World} {v : Value} {l : List (Int × Int)} (hw2 : w2 = w.alloc (.map #[] 0)) (hb : Below w2.heap.size w2 w3) (hr : rowAt w3 99 2 v l.length (fateCells l)) (hv : ∀ k, v.ownBlock = some k → w2.heap.size ≤ k) :
    DiskIs (w3.alloc (.cells #[.map (some w.heap.size), v, .int .i64 0] 122)) (fun k => w.heap.size ≤ k ∧ k < w3.heap.size + 1) w3.heap.size w.heap.size v [] ⟨[], l, 0⟩ := by
  have hs2 : w2.heap.size = w.heap.size + 1 := by rw [hw2]; simp
  have hs3 := hb.size
  have hm2 : w2.ownsMap Try.prog 9 ptrElem w.heap.size 0 (.map []) := by rw [hw2]; exact World.ownsMap_made w Try.prog 9 ptrElem
  have hm3 := ownsMap_kept hm2 (hb.block w.heap.size (by omega))
  have hvb : ∀ k, v.ownBlock = some k → w.heap.size + 1 ≤ k ∧ k < w3.heap.size := fun k hk => ⟨by have := hv k hk; omega, hr.lt k hk⟩
  exact {
    files := rfl
    head := alloc_cells _ _ _
    fates := hr.kept (fun k hk => Below.heap_alloc _ _ k (hr.lt k hk))
    map := ⟨_, hm3.alloc _, Dic.empty⟩
    each := fun x hx => (by cases hx)
    apart := by
      cases ho : v.ownBlock with
      | none =>
        simp [diskBlocks, ho]
        omega
      | some k =>
        have := hvb k ho
        simp [diskBlocks, ho]
        omega
    foot := fun k hk => by
      simp only [diskBlocks, List.mem_cons, List.flatMap_nil, List.append_nil, Option.mem_toList] at hk
      rcases hk with rfl | rfl | hk
      · omega
      · omega
      · have := hvb k hk
        omega
    low := fun k hk => by simp; omega
    sorted := by simp
    names := fun f hf => by simp at hf
    few := by simp }
set_option maxHeartbeats 400000 in
theorem newF_b {w : World} {oa : Option Addr} {n c : Nat} {l : List (Int × Int)} (hn : l.length = n) (h : readAt w 2 (.slice oa n c) n (fateCells l)) (hm : n ≤ 1000000000) (hok : l.any badFate = false) :
    Calls Try.prog 23 #[.slice oa n c] w fun e w' => ∃ q, e = .returned (.tuple #[.pointer (some ⟨q, 0, none⟩), .int .i64 0]) ∧ DiskAt w' (fun k => w.heap.size ≤ k ∧ k < w'.heap.size) q ⟨[], l, 0⟩ ∧ Below w.heap.size w w' := by
  have hmm := @run_makeMap Try.prog
  go_enter Try.func23, Try.ntmps23
  go_wp2_with fail
  refine (right_b hn h hm).mono ?_
  rintro e w1 ⟨rfl, hb1⟩
  rw [hok]
  have H1 := Lib.hid (h.kept (fun k hl _ _ => hb1.block k hl))
  have HB1 := Lib.hid hb1
  clear h hb1
  go_upto_region 3 with fail
  go_wp2_with fail
  have hbm : Below w1.heap.size w1 (w1.alloc (.map #[] 0)) := (Below.refl _ _).alloc (Nat.le_refl _) _
  refine (cloneFate_b hn (H1.out.kept (fun k hl _ _ => hbm.block k hl)) hm).mono ?_
  rintro e w3 ⟨v, rfl, hr3, hv3, hb3⟩
  obtain ⟨oav, cv, rfl, _⟩ := hr3.shape
  subst hn
  have hdn := disk_newF rfl hb3 hr3 hv3
  have hs3 := hb3.size
  have HD := Lib.hid hdn
  have HB3 := Lib.hid (And.intro hb3 (And.intro hbm hs3))
  clear hr3 hv3 hb3 hbm hdn hs3
  go_wp2_with fail
  go_ret2
  have h1 := HB1.out.size
  have h3 := HB3.out.2.2
  simp at h3
  refine ⟨_, rfl, ⟨_, _, _, HD.out.wider (fun k hk => ⟨by omega, by simp; omega⟩) (fun k hk => hk.2)⟩, ?_⟩
  exact (HB1.out.trans ((HB3.out.2.1.trans (HB3.out.1.mono HB3.out.2.1.size)).mono h1)).alloc (by omega) _
end Go.Proofs.Ytmkjejngnahpeaa
/- Disk: the fates are written. -/
namespace Go.Proofs.Ytmkjejngnahpeaa
open Go Go.Maps Go.RowKit

section
variable {w : World} {S : Nat → Prop} {q mb : Nat} {fv : Value} {L : List Fl} {d : Dk}
/-- the struct and its fates are written -/
theorem DiskIs.fates_turn {w' : World} {fv' : Value} {fs' : List (Int × Int)} {st' : Int} (h : DiskIs w S q mb fv L d) (ho : Only (fun k => k = q ∨ fv.ownBlock = some k) w w')
    (hq : w'.heap[q]? = some (.cells #[.map (some mb), fv', .int .i64 st'] 122 (0, 0))) (hob : ∀ k, fv'.ownBlock = some k → fv.ownBlock = some k ∨ (w.heap.size ≤ k ∧ k < w'.heap.size))
    (hr : rowAt w' 99 2 fv' fs'.length (fateCells fs')) : DiskIs w' (fun k => S k ∨ (w.heap.size ≤ k ∧ k < w'.heap.size)) q mb fv' L { d with fates := fs', steps := st' } := by
  have hap := h.apart
  simp only [diskBlocks, List.nodup_cons, List.mem_cons, not_or] at hap
  obtain ⟨⟨hqm, hqr⟩, hmr, hrest⟩ := hap
  have hfr := List.nodup_append.1 hrest
  have hmS : S mb := h.foot mb (by simp [diskBlocks])
  have hqS : S q := h.q_mem
  have hbS : ∀ k ∈ L.flatMap Fl.blocks, S k := fun k hk => h.foot k (by simp only [diskBlocks, List.mem_cons, List.mem_append]; exact .inr (.inr (.inr hk)))
  have hkeep : ∀ k, S k → k ≠ q → fv.ownBlock ≠ some k → w'.heap[k]? = w.heap[k]? := fun k hk h1 h2 => ho.block k (h.low k hk) (fun he => by
    rcases he with he | he
    · exact h1 he
    · exact h2 he)
  have hmf : fv.ownBlock ≠ some mb := fun e => hmr (List.mem_append_left _ (by simp [e]))
  have hbf : ∀ k ∈ L.flatMap Fl.blocks, fv.ownBlock ≠ some k := fun k hk e => hfr.2.2 k (by simp [e]) k hk rfl
  have hbq : ∀ k ∈ L.flatMap Fl.blocks, k ≠ q := fun k hk e => hqr (List.mem_append_right _ (e ▸ hk))
  exact {
    files := h.files
    head := hq
    fates := hr
    map := by
      obtain ⟨D, hown, hd⟩ := h.map
      exact ⟨D, ownsMap_kept hown (hkeep mb hmS (fun e => hqm e.symm) hmf), hd⟩
    each := fun x hx => (h.each x hx).kept (fun k hk => by
      have hk' : k ∈ L.flatMap Fl.blocks := List.mem_flatMap.2 ⟨x, hx, hk⟩
      exact hkeep k (hbS k hk') (hbq k hk') (hbf k hk'))
    apart := by
      have hfv : ∀ k, fv'.ownBlock = some k → k ≠ q ∧ k ≠ mb ∧ k ∉ L.flatMap Fl.blocks := fun k hk => by
        rcases hob k hk with h1 | h1
        · exact ⟨fun e => hqr (List.mem_append_left _ (by simp [h1, e])), fun e => hmr (List.mem_append_left _ (by simp [h1, e])), fun hm => hbf k hm h1⟩
        · have h2 := h.low q hqS
          have h3 := h.low mb hmS
          exact ⟨by omega, by omega, fun hm => by have := h.low k (hbS k hm); omega⟩
      simp only [diskBlocks, List.nodup_cons, List.mem_cons, List.mem_append, Option.mem_toList, not_or]
      refine ⟨⟨hqm, fun e => (hfv q e).1 rfl, fun hm => hbq q hm rfl⟩, ⟨fun e => (hfv mb e).2.1 rfl, fun hm => hmr (List.mem_append_right _ hm)⟩, List.nodup_append.2 ⟨?_, hfr.2.1, fun a ha b hb e => ?_⟩⟩
      · cases fv'.ownBlock <;> simp
      · subst e
        exact (hfv a (by simpa using ha)).2.2 hb
    foot := fun k hk => by
      simp only [diskBlocks, List.mem_cons, List.mem_append, Option.mem_toList] at hk
      rcases hk with rfl | rfl | hk | hk
      · exact .inl hqS
      · exact .inl hmS
      · rcases hob k hk with h1 | h1
        · exact .inl (h.foot k (by simp [diskBlocks, h1]))
        · exact .inr h1
      · exact .inl (hbS k hk)
    low := fun k hk => by
      rcases hk with hk | hk
      · exact Nat.lt_of_lt_of_le (h.low k hk) ho.size
      · exact hk.2
    sorted := h.sorted
    names := h.names
    few := h.few }
end
end Go.Proofs.Ytmkjejngnahpeaa
/- Disk: Feed. -/
namespace Go.Proofs.Ytmkjejngnahpeaa
open Go Go.Maps Go.RowKit

def Dk.feed (d : Dk) (l : List (Int × Int)) : Int × Dk := if l.any badFate = true then (2, d) else (0, { d with fates := d.fates ++ l })
theorem fateCells_append (a b : List (Int × Int)) : fateCells a ++ fateCells b = fateCells (a ++ b) := by simp [fateCells]
set_option maxRecDepth 100000 in
set_option maxHeartbeats 1000000 in
theorem feed_b {w : World} {S : Nat → Prop} {q : Nat} {d : Dk} (h : DiskAt w S q d) {oa : Option Addr} {n c : Nat} {l : List (Int × Int)} (hn : l.length = n) (hl : readAt w 2 (.slice oa n c) n (fateCells l)) (hm : n ≤ 1000000) (hdm : d.fates.length ≤ 1000000000) :
    Calls Try.prog 64 #[.pointer (some ⟨q, 0, none⟩), .slice oa n c] w fun e w' => OpIs w S q (d.feed l) e w' := by
  obtain ⟨mb, fv, L, h⟩ := h
  go_enter Try.func64, Try.ntmps64
  go_wp2_with fail
  refine (none_b h).mono ?_
  rintro e w' ⟨rfl, rfl⟩
  go_wp2_with fail
  refine (right_b hn hl (by omega)).mono ?_
  rintro e w1 ⟨rfl, hb1⟩
  have h1 := h.below hb1
  have hl1 := hl.kept (fun k hl _ _ => hb1.block k hl)
  have hob : Only (fun k => k = q) w' w1 := Only.of_below hb1 (Nat.le_refl _) _
  obtain ⟨b, hbb⟩ : ∃ b, l.any badFate = b := ⟨_, rfl⟩
  rw [hbb]
  cases b with
  | true =>
    have HO : Hid (OpIs w' S q (d.feed l) (.returned (.int .i64 2)) w1) := Lib.hid (by
      rw [show d.feed l = (2, d) by simp [Dk.feed, hbb]]
      exact OpIs.next hob h1 2)
    clear h hl hb1 h1 hl1 hob hbb
    go_wp2_with fail
    go_ret
    exact HO.out
  | false =>
    obtain ⟨oaf, cf, rfl, _⟩ := h1.fates.shape
    obtain ⟨st, hst⟩ : ∃ st, d.steps = st := ⟨_, rfl⟩
    obtain ⟨m, hmm⟩ : ∃ m, d.fates.length = m := ⟨_, rfl⟩
    have hh := h1.head
    rw [hst, hmm] at hh
    rw [hmm] at hdm
    have hfr : rowAt w1 99 2 (.slice oaf m cf) m (fateCells d.fates) := by have := h1.fates; rwa [hmm] at this
    have hqv : ∀ k, (Value.slice oaf m cf).ownBlock = some k → k ≠ q := fun k hk he => by
      have h2 := h1.apart
      simp only [diskBlocks, List.nodup_cons] at h2
      have h3 : (Value.slice oaf d.fates.length cf).ownBlock = some k := by rw [hmm]; exact hk
      exact h2.1 (by rw [← he]; simp [h3])
    have HS : Hid (Src Try.prog w1 2 65 (.slice oa n c) n (fateCells l)) := Lib.hid (Src.of_read Try.underlying65 hl1 (fateCells_one _))
    have HF := Lib.hid hfr
    have HH := Lib.hid hh
    have H1 := Lib.hid h1
    have HOB := Lib.hid hob
    have HQV := Lib.hid hqv
    have HBB := Lib.hid (And.intro hbb (And.intro hst hmm))
    have c1 : w1.cell? ⟨q, 1, none⟩ = some (.slice oaf m cf) := cell_of hh rfl
    have hqlt : q < w1.heap.size := (Array.getElem?_eq_some_iff.1 hh).1
    clear h hl hb1 h1 hl1 hob hbb hst hmm hh hfr hqv
    go_wp2_with (at_builtin; refine wpList_append_at _ rfl (.tmp 16) (.tmp 17) 65 65 rfl 99 (.agg #[.int .i64 0, .int .i64 0]) 2 16 Try.underlying65 info_fate rfl _ m _ rfl HF.out _ n _ rfl HS.out (by unfold maxLen; omega) (by omega) ?_; intro v' w3 hr hg hown _; obtain ⟨oa', c', rfl, _⟩ := hr.shape; have hg' : w1.grownBy w3 (Value.slice oaf m cf).ownBlock := hg; have hown' : (Value.slice oa' (m + n) c').ownBlock = (Value.slice oaf m cf).ownBlock ∨ (Value.slice oa' (m + n) c').ownBlock = some w1.heap.size := hown; have hh3 : w3.heap[q]? = w1.heap[q]? := hg'.block q hqlt (fun e => HQV.out q e.symm rfl); have hc3 : w3.cell? ⟨q, 1, none⟩ = some (.slice oaf m cf) := (by rw [← c1]; exact cell_kept_at hh3); have hz3 : w3.frozen? ⟨q, 1, none⟩ = false := (by rw [frozen_kept_at hh3]; exact free_of HH.out _); have HR := Lib.hid hr; have HG := Lib.hid hg'; have HOWN := Lib.hid hown'; have HH3 := Lib.hid hh3; clear hr hg hown hg' hown' hh3)
    go_ret
    obtain ⟨w4, hw4⟩ : ∃ w4 : World, w4 = w3.setCell ⟨q, 1, none⟩ (.slice oa' (m + n) c') := ⟨_, rfl⟩
    have hset : Only (fun k => k = q) w3 w4 := by rw [hw4]; exact only_setCell (fun k => k = q) w3 q 1 _ rfl
    have hq4 : w4.heap[q]? = some (.cells #[.map (some mb), .slice oa' (m + n) c', .int .i64 st] 122 (0, 0)) := by rw [hw4]; exact heap_setCell_here _ (HH3.out.trans HH.out)
    rw [← hw4]
    have hvq : ∀ k, (Value.slice oa' (m + n) c').ownBlock = some k → k ≠ q := fun k hk => by
      rcases HOWN.out with h5 | h5
      · exact HQV.out k (by rw [← h5]; exact hk)
      · rw [h5] at hk
        simp only [Option.some.injEq] at hk
        omega
    have hr4 : rowAt w4 99 2 (.slice oa' (m + n) c') (d.fates ++ l).length (fateCells (d.fates ++ l)) := by
      rw [← fateCells_append, List.length_append, HBB.out.2.2, hn]
      exact HR.out.kept (fun k hk => hset.block k (HR.out.lt k hk) (hvq k hk))
    have ho : Only (fun k => k = q ∨ (Value.slice oaf d.fates.length cf).ownBlock = some k) w1 w4 := (Only.of_grown (S := fun k => k = q ∨ (Value.slice oaf d.fates.length cf).ownBlock = some k) HG.out (fun k hk => .inr (by rw [HBB.out.2.2]; exact hk))).trans hset (fun i _ hi => .inl hi)
    have h5 := H1.out.fates_turn (fs' := d.fates ++ l) (st' := st) ho hq4 (fun k hk => by
      rcases HOWN.out with h6 | h6
      · exact .inl (by rw [HBB.out.2.2, ← h6]; exact hk)
      · have h7 := HR.out.lt k hk
        rw [h6] at hk
        simp only [Option.some.injEq] at hk
        have := hset.size
        exact .inr ⟨by omega, by omega⟩) hr4
    have e : d.feed l = (0, { d with fates := d.fates ++ l, steps := st }) := by
      simp only [Dk.feed, HBB.out.1]
      rw [if_neg (by simp), ← HBB.out.2.1]
    rw [e]
    refine ⟨rfl, ⟨mb, _, _, h5.wider (fun k hk => ?_) (fun k hk => ?_)⟩, ?_⟩
    · rcases hk with hk | hk
      · exact .inl hk
      · exact .inr ⟨Nat.le_trans HOB.out.size hk.1, hk.2⟩
    · rcases hk with hk | hk
      · exact Nat.lt_of_lt_of_le (H1.out.low k hk) ho.size
      · exact hk.2
    · exact (HOB.out.mono (fun i _ hi => by rw [hi]; exact H1.out.q_mem)).trans ho (fun i _ hi => by
        rcases hi with hi | hi
        · rw [hi]; exact H1.out.q_mem
        · exact H1.out.foot i (by simp [diskBlocks, hi]))
end Go.Proofs.Ytmkjejngnahpeaa
/- The document's disk: how it lies in memory: its struct, its row of files, its row of fates. -/
namespace Go.Proofs.Ytmkjejngnahpeaa
open Go Go.Maps Go.RowKit
open Go.Proofs (encStr)

def rfFile (f : F0) : List Value := [encStr f.name, encStr f.bytes, .int .i64 f.lasts, .bool f.there, .bool f.named]
def rfCells (l : List F0) : List Value := l.flatMap rfFile
theorem rfCells_length : ∀ l : List F0, (rfCells l).length = l.length * 5
  | [] => rfl
  | x :: r => by
    show (rfFile x ++ rfCells r).length = _
    simp only [List.length_append, List.length_cons, rfCells_length r]
    show 5 + _ = _
    omega
theorem rfCells_append (a b : List F0) : rfCells (a ++ b) = rfCells a ++ rfCells b := by simp [rfCells]
theorem rfCells_take : ∀ (l : List F0) (k : Nat), rfCells (l.take k) = (rfCells l).take (k * 5)
  | [], k => by simp [rfCells]
  | x :: r, 0 => by simp [rfCells]
  | x :: r, k + 1 => by
    show rfFile x ++ rfCells (r.take k) = (rfFile x ++ rfCells r).take _
    have h : (rfFile x).length = 5 := rfl
    rw [rfCells_take r k, List.take_append, h, List.take_of_length_le (l := rfFile x) (by rw [h]; omega)]
    congr 2
    omega
theorem rfCells_drop : ∀ (l : List F0) (k : Nat), rfCells (l.drop k) = (rfCells l).drop (k * 5)
  | [], k => by simp [rfCells]
  | x :: r, 0 => by simp [rfCells]
  | x :: r, k + 1 => by
    show rfCells (r.drop k) = (rfFile x ++ rfCells r).drop _
    have h : (rfFile x).length = 5 := rfl
    rw [rfCells_drop r k, List.drop_append, h, List.drop_of_length_le (l := rfFile x) (by rw [h]; omega), List.nil_append]
    congr 1
    omega
theorem rfCells_get : ∀ {l : List F0} {j i : Nat} (hj : j < l.length), i < 5 → (rfCells l)[j * 5 + i]? = (rfFile l[j])[i]?
  | x :: r, 0, i, _, hi => by
    show (rfFile x ++ rfCells r)[0 * 5 + i]? = _
    rw [Nat.zero_mul, Nat.zero_add, List.getElem?_append_left (show i < 5 from hi)]
    rfl
  | x :: r, j + 1, i, hj, hi => by
    show (rfFile x ++ rfCells r)[(j + 1) * 5 + i]? = _
    have h : (rfFile x).length = 5 := rfl
    rw [List.getElem?_append_right (by rw [h]; omega), h]
    have e : (j + 1) * 5 + i - 5 = j * 5 + i := by omega
    rw [e, rfCells_get (l := r) (by simpa using hj) hi]
    rfl
theorem rfFile_one (f : F0) : ∀ v ∈ rfFile f, v.oneCell' = true := by
  intro v hv
  simp only [rfFile, List.mem_cons, List.not_mem_nil, or_false] at hv
  rcases hv with rfl | rfl | rfl | rfl | rfl <;> rfl
theorem rfCells_one (l : List F0) : ∀ v ∈ rfCells l, v.oneCell' = true := by
  intro v hv
  obtain ⟨f, _, h⟩ := List.mem_flatMap.1 hv
  exact rfFile_one f v h
structure RfIs (w : World) (S : Nat → Prop) (p : Nat) (rv fv : Value) (d : Dk) : Prop where
  head : w.heap[p]? = some (.cells #[rv, fv, .int .i64 d.steps] 198 (0, 0))
  files : rowAt w 200 5 rv d.files.length (rfCells d.files)
  fates : rowAt w 99 2 fv d.fates.length (fateCells d.fates)
  footp : S p
  footr : ∀ k, rv.ownBlock = some k → S k
  footf : ∀ k, fv.ownBlock = some k → S k
  low : ∀ k, S k → k < w.heap.size
  sorted : (d.files.map (·.name)).Pairwise (· < ·)
  names : ∀ f ∈ d.files, nameOk f.name = true
  sizes : ∀ f ∈ d.files, f.lasts ≤ f.bytes.length ∧ f.bytes.length ≤ 16777216
  few : d.files.length ≤ 4096
/-- the document's disk, wherever its parts lie -/
def RfAt (w : World) (S : Nat → Prop) (p : Nat) (d : Dk) : Prop := ∃ rv fv, RfIs w S p rv fv d
theorem row_type {w : World} {e e' : TypeId} {size n k : Nat} {v : Value} {xs : List Value} {cs' : Array Value} {fr : Nat × Nat} (h : rowAt w e size v n xs) (hk : v.ownBlock = some k) (hc : w.heap[k]? = some (.cells cs' e' fr)) : e = e' := by
  rcases h.2 with ⟨rfl, _⟩ | ⟨g, off, cap, cur, fr', rfl, hg, _⟩
  · simp [Value.ownBlock] at hk
  · simp only [Value.ownBlock, Option.some.injEq] at hk
    subst hk
    rw [hg] at hc
    simp only [Option.some.injEq, Obj.cells.injEq] at hc
    exact hc.2.1
section
variable {w : World} {S : Nat → Prop} {p : Nat} {rv fv : Value} {d : Dk}
theorem RfIs.kept {w' : World} (h : RfIs w S p rv fv d) (hk : ∀ k, S k → w'.heap[k]? = w.heap[k]?) (hsz : w.heap.size ≤ w'.heap.size) : RfIs w' S p rv fv d :=
  { h with
    head := (hk p h.footp).trans h.head
    files := h.files.kept (fun k hk' => hk k (h.footr k hk'))
    fates := h.fates.kept (fun k hk' => hk k (h.footf k hk'))
    low := fun k hk' => Nat.lt_of_lt_of_le (h.low k hk') hsz }
theorem RfIs.only {T : Nat → Prop} {w' : World} (h : RfIs w S p rv fv d) (ho : Only T w w') (hT : ∀ k, S k → ¬ T k) : RfIs w' S p rv fv d :=
  h.kept (fun k hk => ho.block k (h.low k hk) (hT k hk)) ho.size
theorem RfIs.below {w' : World} (h : RfIs w S p rv fv d) (hb : Below w.heap.size w w') : RfIs w' S p rv fv d :=
  h.kept (fun k hk => hb.block k (h.low k hk)) hb.size
theorem RfIs.wider {S' : Nat → Prop} (h : RfIs w S p rv fv d) (h1 : ∀ k, S k → S' k) (h2 : ∀ k, S' k → k < w.heap.size) : RfIs w S' p rv fv d :=
  { h with footp := h1 p h.footp, footr := fun k hk => h1 k (h.footr k hk), footf := fun k hk => h1 k (h.footf k hk), low := h2 }
theorem RfIs.rp (h : RfIs w S p rv fv d) : ∀ k, rv.ownBlock = some k → k ≠ p := fun k hk e => by
  subst e
  exact absurd (row_type h.files hk h.head) (by decide)
theorem RfIs.fp (h : RfIs w S p rv fv d) : ∀ k, fv.ownBlock = some k → k ≠ p := fun k hk e => by
  subst e
  exact absurd (row_type h.fates hk h.head) (by decide)
theorem RfIs.rf (h : RfIs w S p rv fv d) : ∀ k, rv.ownBlock = some k → fv.ownBlock ≠ some k := fun k hk e => by
  rcases h.files.2 with ⟨hv, _⟩ | ⟨g, off, cap, cur, fr', hv, hg, _⟩
  · rw [hv] at hk
    simp [Value.ownBlock] at hk
  · rw [hv] at hk
    simp only [Value.ownBlock, Option.some.injEq] at hk
    subst hk
    exact absurd (row_type h.fates e hg) (by decide)
/-- the struct itself is written, its fates go on -/
theorem RfIs.head_turn {w' : World} {fv' : Value} {fs' : List (Int × Int)} {st' : Int} (h : RfIs w S p rv fv d) (ho : Only (fun k => k = p) w w')
    (hq : w'.heap[p]? = some (.cells #[rv, fv', .int .i64 st'] 198 (0, 0))) (hob : ∀ k, fv'.ownBlock = some k → fv.ownBlock = some k)
    (hr : rowAt w 99 2 fv' fs'.length (fateCells fs')) : RfIs w' S p rv fv' { d with fates := fs', steps := st' } :=
  { head := hq
    files := h.files.kept (fun k hk => ho.block k (h.low k (h.footr k hk)) (h.rp k hk))
    fates := hr.kept (fun k hk => ho.block k (h.low k (h.footf k (hob k hk))) (h.fp k (hob k hk)))
    footp := h.footp
    footr := h.footr
    footf := fun k hk => h.footf k (hob k hk)
    low := fun k hk => Nat.lt_of_lt_of_le (h.low k hk) ho.size
    sorted := h.sorted
    names := h.names
    sizes := h.sizes
    few := h.few }
/-- a row of files is put in the place of the old one -/
theorem RfIs.files_turn {w' : World} {rv' : Value} {fl' : List F0} {T : Nat → Prop} (h : RfIs w S p rv fv d) (ho : Only (fun k => k = p) w w')
    (hq : w'.heap[p]? = some (.cells #[rv', fv, .int .i64 d.steps] 198 (0, 0)))
    (hr : rowAt w' 200 5 rv' fl'.length (rfCells fl')) (hT : ∀ k, S k → T k) (hob : ∀ k, rv'.ownBlock = some k → T k) (hTl : ∀ k, T k → k < w'.heap.size)
    (hs : (fl'.map (·.name)).Pairwise (· < ·)) (hn : ∀ f ∈ fl', nameOk f.name = true) (hz : ∀ f ∈ fl', f.lasts ≤ f.bytes.length ∧ f.bytes.length ≤ 16777216) (hf : fl'.length ≤ 4096) : RfIs w' T p rv' fv { d with files := fl' } :=
  { head := hq
    files := hr
    fates := h.fates.kept (fun k hk => ho.block k (h.low k (h.footf k hk)) (h.fp k hk))
    footp := hT p h.footp
    footr := hob
    footf := fun k hk => hT k (h.footf k hk)
    low := hTl
    sorted := hs
    names := hn
    sizes := hz
    few := hf }
end
/-- one cell of a row is written -/
theorem rowAt.setAt {w : World} {e : TypeId} {size g off m c n : Nat} {xs : List Value} (h : rowAt w e size (.slice (some ⟨g, off, none⟩) m c) n xs) {j : Nat} (hj : j < n * size) (v : Value) :
    rowAt (w.setCell ⟨g, off + j, none⟩ v) e size (.slice (some ⟨g, off, none⟩) m c) n (xs.set j v) := by
  refine ⟨by rw [List.length_set]; exact h.1, ?_⟩
  rcases h.2 with ⟨hv, _⟩ | ⟨g', off', cap, cur, fr, hv, hg, h1, h2, h3, h4, h5⟩
  · cases hv
  · simp only [Value.slice.injEq, Option.some.injEq, Addr.mk.injEq] at hv
    obtain ⟨⟨rfl, rfl, -⟩, rfl, rfl⟩ := hv
    refine .inr ⟨g, off, c, cur.setIfInBounds (off + j) v, fr, rfl, heap_setCell_here v hg, h1, h2, by simpa using h3, by simpa using h4, ?_⟩
    rw [← h5, Array.toList_setIfInBounds, List.drop_set, if_neg (by omega), List.take_set]
    congr 2
    omega
theorem rowAt.freeAt {w : World} {e : TypeId} {size g off m c n : Nat} {xs : List Value} (h : rowAt w e size (.slice (some ⟨g, off, none⟩) m c) n xs) {j : Nat} (hj : j < n * size) : w.frozen? ⟨g, off + j, none⟩ = false := by
  rcases h.2 with ⟨hv, _⟩ | ⟨g', off', cap, cur, fr, hv, hg, h1, h2, h3, h4, h5⟩
  · cases hv
  · simp only [Value.slice.injEq, Option.some.injEq, Addr.mk.injEq] at hv
    obtain ⟨⟨rfl, rfl, -⟩, rfl, rfl⟩ := hv
    have h6 : m * size ≤ c * size := Nat.mul_le_mul_right _ h1
    simp only [World.frozen?, hg]
    exact h4 _ (by omega)
end Go.Proofs.Ytmkjejngnahpeaa
/- The document's disk: a name is asked for, a file is found, the next step. -/
namespace Go.Proofs.Ytmkjejngnahpeaa
open Go Go.Maps Go.RowKit
open Go.Proofs (encStr)

set_option maxHeartbeats 400000 in
theorem refNamed_any (s : ByteArray) (w : World) (hs : s.size ≤ maxLen) :
    Calls Try.prog 127 #[.string s] w fun e w' => e = .returned (.bool (nameOk s.data.toList)) ∧ w' = w := by
  unfold maxLen at hs
  obtain ⟨l, hl⟩ : ∃ l, s.data.toList = l := ⟨_, rfl⟩
  have hll : l.length = s.size := by rw [← hl, Array.length_toList]; rfl
  by_cases h1 : 1 ≤ s.size
  case neg =>
    have HF : Hid (nameOk l = false) := Lib.hid (by
      unfold nameOk
      have : decide (1 ≤ l.length) = false := decide_eq_false (by omega)
      rw [this]; simp)
    have e1 : decide ((s.size : Int) < 1) = true := decide_eq_true (by omega)
    rw [hl]
    clear hl hll
    go_enter Try.func127, Try.ntmps127
    go_wp2_with fail
    go_ret
    exact ⟨ret_bool HF.out.symm, rfl⟩
  by_cases h2 : s.size ≤ 32
  case neg =>
    have HF : Hid (nameOk l = false) := Lib.hid (by
      unfold nameOk
      have : decide (l.length ≤ 32) = false := decide_eq_false (by omega)
      rw [this]; simp)
    have e1 : decide ((s.size : Int) < 1) = false := decide_eq_false (by omega)
    have e2 : decide ((32 : Int) < (s.size : Int)) = true := by simp; omega
    rw [hl]
    clear hl hll
    go_enter Try.func127, Try.ntmps127
    go_wp2_with fail
    go_ret
    exact ⟨ret_bool HF.out.symm, rfl⟩
  have e1 : decide ((s.size : Int) < 1) = false := decide_eq_false (by omega)
  have e2 : decide ((32 : Int) < (s.size : Int)) = false := by simp; omega
  have HN : Hid (s.data.toList.all okByte = true → nameOk s.data.toList = true) := Lib.hid (fun h => by
    unfold nameOk
    rw [h, hl]
    simp; omega)
  clear hl hll
  go_enter Try.func127, Try.ntmps127
  go_wp2
  clear e1 e2
  go_loop [3] (fun i => ∃ k : Nat, k ≤ s.size ∧ i = .int .i64 k ∧ AllOk (s.data.toList.take k)) (fun i => s.size - (intOf i).toNat)
  case atStart => exact ⟨0, Nat.zero_le _, rfl, by simp [AllOk]⟩
  case round =>
    obtain ⟨k, hk, rfl, hlow⟩ := hrel
    by_cases hlt : k < s.size
    · obtain ⟨c, hcc⟩ : ∃ c : Nat, (s[k]'hlt).toNat = c := ⟨_, rfl⟩
      have HR : Hid ((97 ≤ c ∧ c ≤ 122) ∨ (48 ≤ c ∧ c ≤ 57) ∨ c = 46 ∨ c = 45 → AllOk (s.data.toList.take (k + 1))) := Lib.hid fun h => AllOk.snoc hlt hlow ((okByte_iff _ c hcc).2 h)
      have HF : Hid (¬ ((97 ≤ c ∧ c ≤ 122) ∨ (48 ≤ c ∧ c ≤ 57) ∨ c = 46 ∨ c = 45) → nameOk s.data.toList = false) := Lib.hid fun h => nameOk_not hlt (by
        cases hb : okByte s[k] with
        | false => rfl
        | true => exact absurd ((okByte_iff _ c hcc).1 hb) h)
      clear hlow
      by_cases h0 : 97 ≤ c ∧ c ≤ 122
      · skip
        have e1 : decide ((97 : Int) ≤ (c : Int)) = true := by simp; omega
        have e2 : decide ((c : Int) ≤ 122) = true := by simp; omega
        have HO : Hid (AllOk (s.data.toList.take (k + 1))) := Lib.hid (HR.out (by omega))
        clear HR HF
        go_wp2
        go_round
        case rel => exact ⟨k + 1, by omega, by go_num, HO.out⟩
        case measure => simp [intOf]; omega
      by_cases h1 : 48 ≤ c ∧ c ≤ 57
      · skip
        have e1 : decide ((97 : Int) ≤ (c : Int)) = false := by simp; omega
        have e3 : decide ((48 : Int) ≤ (c : Int)) = true := by simp; omega
        have e4 : decide ((c : Int) ≤ 57) = true := by simp; omega
        have HO : Hid (AllOk (s.data.toList.take (k + 1))) := Lib.hid (HR.out (by omega))
        clear HR HF
        go_wp2
        go_round
        case rel => exact ⟨k + 1, by omega, by go_num, HO.out⟩
        case measure => simp [intOf]; omega
      by_cases h2 : c = 46
      · skip
        have e1 : decide ((97 : Int) ≤ (c : Int)) = false := by simp; omega
        have e3 : decide ((48 : Int) ≤ (c : Int)) = false := by simp; omega
        have e5 : ((c : Int) == 46) = true := by simp; omega
        have HO : Hid (AllOk (s.data.toList.take (k + 1))) := Lib.hid (HR.out (by omega))
        clear HR HF
        go_wp2
        go_round
        case rel => exact ⟨k + 1, by omega, by go_num, HO.out⟩
        case measure => simp [intOf]; omega
      by_cases h3 : c = 45
      · skip
        have e1 : decide ((97 : Int) ≤ (c : Int)) = false := by simp; omega
        have e3 : decide ((48 : Int) ≤ (c : Int)) = false := by simp; omega
        have e5 : ((c : Int) == 46) = false := by simp; omega
        have e6 : ((c : Int) == 45) = true := by simp; omega
        have HO : Hid (AllOk (s.data.toList.take (k + 1))) := Lib.hid (HR.out (by omega))
        clear HR HF
        go_wp2
        go_round
        case rel => exact ⟨k + 1, by omega, by go_num, HO.out⟩
        case measure => simp [intOf]; omega
      by_cases h4 : 122 < c
      · skip
        have e1 : decide ((97 : Int) ≤ (c : Int)) = true := by simp; omega
        have e2 : decide ((c : Int) ≤ 122) = false := by simp; omega
        have e3 : decide ((48 : Int) ≤ (c : Int)) = true := by simp; omega
        have e4 : decide ((c : Int) ≤ 57) = false := by simp; omega
        have e5 : ((c : Int) == 46) = false := by simp; omega
        have e6 : ((c : Int) == 45) = false := by simp; omega
        have HO : Hid (nameOk s.data.toList = false) := Lib.hid (HF.out (by omega))
        clear HR HF
        go_wp2
        go_ret
        exact ⟨ret_bool HO.out.symm, rfl⟩
      by_cases h5 : 57 < c
      · skip
        have e1 : decide ((97 : Int) ≤ (c : Int)) = false := by simp; omega
        have e3 : decide ((48 : Int) ≤ (c : Int)) = true := by simp; omega
        have e4 : decide ((c : Int) ≤ 57) = false := by simp; omega
        have e5 : ((c : Int) == 46) = false := by simp; omega
        have e6 : ((c : Int) == 45) = false := by simp; omega
        have HO : Hid (nameOk s.data.toList = false) := Lib.hid (HF.out (by omega))
        clear HR HF
        go_wp2
        go_ret
        exact ⟨ret_bool HO.out.symm, rfl⟩
      have hrest : c < 48 ∧ c ≠ 46 ∧ c ≠ 45 := by omega
      · skip
        have e1 : decide ((97 : Int) ≤ (c : Int)) = false := by simp; omega
        have e3 : decide ((48 : Int) ≤ (c : Int)) = false := by simp; omega
        have e5 : ((c : Int) == 46) = false := by simp; omega
        have e6 : ((c : Int) == 45) = false := by simp; omega
        have HO : Hid (nameOk s.data.toList = false) := Lib.hid (HF.out (by omega))
        clear HR HF
        go_wp2
        go_ret
        exact ⟨ret_bool HO.out.symm, rfl⟩
    · obtain rfl : k = s.size := by omega
      have HF : Hid (nameOk s.data.toList = true) := Lib.hid (HN.out (by
        have h1 : AllOk (s.data.toList.take s.size) := hlow
        rwa [AllOk, List.take_of_length_le (by simp)] at h1))
      clear hlow
      go_wp2
      go_ret
      exact ⟨ret_bool HF.out.symm, rfl⟩
/-- the place of a name -/
def PosIs (d : Dk) (s : List UInt8) (e : Ending) : Prop :=
  (d.at s = none ∧ e = .returned (.int .i64 (-1))) ∨ (∃ (i : Nat) (h : i < d.files.length), d.files[i].name = s ∧ d.at s = some d.files[i] ∧ e = .returned (.int .i64 i))
theorem at_first {l : List F0} {s : List UInt8} {i : Nat} (hi : i < l.length) (h : l[i].name = s) (hn : ∀ f ∈ l.take i, f.name ≠ s) : l.find? (fun f => f.name == s) = some l[i] := by
  have e : l = l.take i ++ (l[i] :: l.drop (i + 1)) := by rw [← List.drop_eq_getElem_cons hi, List.take_append_drop]
  generalize l[i] = x at *
  rw [congrArg (List.find? fun f => f.name == s) e, List.find?_append, List.find?_eq_none.2 (fun y hy => by simpa using hn y hy)]
  simp [h]
theorem rf_cell {w : World} {g off N c i j : Nat} {l : List F0} (h : rowAt w 200 5 (.slice (some ⟨g, off, none⟩) N c) N (rfCells l)) (hj : j < l.length) (hi : i < 5) {u : Value} (hu : (rfFile l[j])[i]? = some u) : w.cell? ⟨g, off + j * 5 + i, none⟩ = some u := by
  have := h.cells (g := g) (off := off) rfl (j * 5 + i) u (by rw [rfCells_get hj hi, hu])
  simpa [Go.WideShapes.add_plain, Nat.add_assoc] using this
set_option maxRecDepth 100000 in
set_option maxHeartbeats 1000000 in
theorem refAt_b {w : World} {S : Nat → Prop} {p : Nat} {rv fv : Value} {d : Dk} (h : RfIs w S p rv fv d) (nm : ByteArray) :
    Calls Try.prog 128 #[.pointer (some ⟨p, 0, none⟩), .string nm] w fun e w' => PosIs d nm.data.toList e ∧ w' = w := by
  obtain ⟨oa, c, rfl, hnc⟩ := h.files.shape
  obtain ⟨N, hN⟩ : ∃ N, d.files.length = N := ⟨_, rfl⟩
  have c0 : w.cell? ⟨p, 0, none⟩ = some (.slice oa N c) := cell_of h.head (by rw [← hN]; rfl)
  have hN4 : N ≤ 4096 := by rw [← hN]; exact h.few
  have hrow := h.files
  rw [hN] at hrow
  have HR := Lib.hid hrow
  have HN := Lib.hid hN
  clear hrow hN h hnc
  go_enter Try.func128, Try.ntmps128
  go_wp2_with fail
  go_loop [5] (fun i => ∃ j : Nat, j ≤ N ∧ i = .int .i64 j ∧ Hid (∀ f ∈ d.files.take j, f.name ≠ nm.data.toList)) (fun i => N - (intOf i).toNat)
  case atStart => exact ⟨0, Nat.zero_le _, rfl, Lib.hid (by simp)⟩
  case round =>
    obtain ⟨j, hj, rfl, HA⟩ := hrel
    by_cases hlt : j < N
    · have hjf : j < d.files.length := by rw [HN.out]; exact hlt
      obtain ⟨g, off, rfl⟩ := HR.out.addr (by omega)
      obtain ⟨x, hx⟩ : ∃ x, d.files[j] = x := ⟨_, rfl⟩
      obtain ⟨xn, hxn⟩ : ∃ a : ByteArray, a = ⟨x.name.toArray⟩ := ⟨_, rfl⟩
      have k0 : w.cell? ⟨g, off + j * 5, none⟩ = some (.string xn) := rf_cell (i := 0) HR.out hjf (by omega) (by rw [hx, hxn]; rfl)
      by_cases hn : x.name = nm.data.toList
      · have hab : xn = nm := by rw [hxn, hn]
        have HE : Hid (PosIs d nm.data.toList (.returned (.int .i64 j))) := Lib.hid (.inr ⟨j, hjf, by rw [hx]; exact hn, at_first hjf (by rw [hx]; exact hn) HA.out, rfl⟩)
        have heq := str_eq_true hab
        clear hx hxn hn hab
        go_wp2_with fail
        go_ret
        exact ⟨HE.out, rfl⟩
      · have hab : ¬ xn = nm := fun e => hn (by rw [← e, hxn])
        have HA2 : Hid (∀ f ∈ d.files.take (j + 1), f.name ≠ nm.data.toList) := Lib.hid (fun f hf => by
          rw [List.take_succ_eq_append_getElem hjf] at hf
          rcases List.mem_append.1 hf with h1 | h1
          · exact HA.out f h1
          · rw [List.mem_singleton] at h1
            rw [h1, hx]; exact hn)
        have heq := str_eq_false hab
        clear hx hxn hn hab
        go_wp2_with fail
        exact ⟨⟨j + 1, by omega, by simp, HA2⟩, by simp [intOf]; omega⟩
    · obtain rfl : j = N := by omega
      have HE : Hid (PosIs d nm.data.toList (.returned (.int .i64 (-1)))) := Lib.hid (.inl ⟨List.find?_eq_none.2 (fun f hf => by
        have h1 := HA.out
        rw [← HN.out, List.take_length] at h1
        simpa using h1 f hf), rfl⟩)
      go_wp2_with fail
      go_ret
      exact ⟨HE.out, rfl⟩
def RFindIs (d : Dk) (s : List UInt8) (e : Ending) : Prop :=
  (nameOk s = false ∧ e = .returned (.tuple #[.int .i64 0, .int .i64 2])) ∨ (nameOk s = true ∧ d.find s = none ∧ e = .returned (.tuple #[.int .i64 0, .int .i64 171])) ∨
  (nameOk s = true ∧ ∃ (i : Nat) (h : i < d.files.length), d.files[i].name = s ∧ d.files[i].there = true ∧ d.find s = some d.files[i] ∧ e = .returned (.tuple #[.int .i64 i, .int .i64 0]))
set_option maxRecDepth 100000 in
set_option maxHeartbeats 1000000 in
theorem refFind_b {w : World} {S : Nat → Prop} {p : Nat} {rv fv : Value} {d : Dk} (h : RfIs w S p rv fv d) (nm : ByteArray) (hs : nm.size ≤ maxLen) :
    Calls Try.prog 130 #[.pointer (some ⟨p, 0, none⟩), .string nm] w fun e w' => RFindIs d nm.data.toList e ∧ w' = w := by
  obtain ⟨s, hss⟩ : ∃ s, nm.data.toList = s := ⟨_, rfl⟩
  go_enter Try.func130, Try.ntmps130
  go_wp2_with fail
  refine (refNamed_any nm _ hs).mono ?_
  rintro e w' ⟨rfl, rfl⟩
  rw [hss]
  cases hn : nameOk s with
  | false =>
    have HF : Hid (RFindIs d s (.returned (.tuple #[.int .i64 0, .int .i64 2]))) := Lib.hid (.inl ⟨hn, rfl⟩)
    have HSS := Lib.hid hss
    clear h hn hss
    go_wp2_with fail
    go_ret2
    exact ⟨by rw [HSS.out]; exact HF.out, rfl⟩
  | true =>
    have HH := Lib.hid h
    have HNK := Lib.hid hn
    have HSS := Lib.hid hss
    clear h hn hss
    go_wp2_with fail
    refine (refAt_b HH.out nm).mono ?_
    rintro e w1 ⟨hp, hw1⟩
    obtain rfl := hw1.symm
    rw [HSS.out] at hp
    rcases hp with ⟨ha, rfl⟩ | ⟨i, hi, hxn, ha, rfl⟩
    · have HF : Hid (RFindIs d s (.returned (.tuple #[.int .i64 0, .int .i64 171]))) := Lib.hid (.inr (.inl ⟨HNK.out, by simp [Dk.find, ha], rfl⟩))
      clear ha
      go_wp2_with fail
      go_ret2
      exact ⟨by rw [HSS.out]; exact HF.out, rfl⟩
    · have h := HH.out
      obtain ⟨oa, c, rfl, hnc⟩ := h.files.shape
      obtain ⟨N, hN⟩ : ∃ N, d.files.length = N := ⟨_, rfl⟩
      have c0 : w'.cell? ⟨p, 0, none⟩ = some (.slice oa N c) := cell_of h.head (by rw [← hN]; rfl)
      have hN4 : N ≤ 4096 := by rw [← hN]; exact h.few
      have hrow := h.files
      rw [hN] at hrow
      have hiN : i < N := by omega
      obtain ⟨g, off, rfl⟩ := hrow.addr (by omega)
      obtain ⟨x, hx⟩ : ∃ x, d.files[i] = x := ⟨_, rfl⟩
      obtain ⟨t, ht⟩ : ∃ t, x.there = t := ⟨_, rfl⟩
      have k0 : w'.cell? ⟨g, off + i * 5 + 3, none⟩ = some (.bool t) := rf_cell (i := 3) hrow hi (by omega) (by rw [hx, ← ht]; rfl)
      have hneg : decide ((i : Int) < 0) = false := decide_eq_false (by omega)
      rw [hx] at ha hxn
      have HX := Lib.hid (And.intro hx (And.intro ha (And.intro hxn (And.intro ht hi))))
      clear hx ha hxn ht hrow hnc hN h
      cases t
      · have HF : Hid (RFindIs d s (.returned (.tuple #[.int .i64 0, .int .i64 171]))) := Lib.hid (.inr (.inl ⟨HNK.out, by simp [Dk.find, HX.out.2.1, HX.out.2.2.2.1], rfl⟩))
        go_wp2_with fail
        go_ret2
        exact ⟨by rw [HSS.out]; exact HF.out, rfl⟩
      · have HF : Hid (RFindIs d s (.returned (.tuple #[.int .i64 i, .int .i64 0]))) := Lib.hid (.inr (.inr ⟨HNK.out, i, HX.out.2.2.2.2, by rw [HX.out.1]; exact HX.out.2.2.1, by rw [HX.out.1]; exact HX.out.2.2.2.1, by rw [HX.out.1]; simp [Dk.find, HX.out.2.1, HX.out.2.2.2.1], rfl⟩))
        go_wp2_with fail
        go_ret2
        exact ⟨by rw [HSS.out]; exact HF.out, rfl⟩
end Go.Proofs.Ytmkjejngnahpeaa
