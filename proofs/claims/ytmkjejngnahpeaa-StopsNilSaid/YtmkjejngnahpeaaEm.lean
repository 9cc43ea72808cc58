/- Disk: Cut. -/
import Derived.Test.YtmkjejngnahpeaaEa
namespace Go.Proofs.Ytmkjejngnahpeaa
open Go Go.Maps Go.RowKit

def Dk.cut (d : Dk) (s : List UInt8) (n : Int) : Int × Dk :=
  if nameOk s = false then (2, d)
  else match d.find s with
    | none => (171, d)
    | some f => if n < 0 ∨ (f.bytes.length : Int) < n then (4, d)
      else if d.fate.1 ≠ 0 then (d.fate.1, d.next)
      else (0, d.next.turn s fun f => { f with bytes := f.bytes.take n.toNat, lasts := min f.lasts n.toNat })
theorem run_both (oa : Option Addr) (N c E : Nat) (h2 : E ≤ c) (h0 : oa.map (fun x => x.add 0) = oa) (W : World) : (Instr.slice 79 (.slice oa N c) none (some (.int .i64 (E : Int))) (some (.int .i64 (E : Int)))).run Try.prog W = .ok (.slice oa E E) W := by
  have hs : (sizeOf 5).run Try.prog W = .ok 1 W := by kernel_rfl
  have he : Try.prog.elem 79 = 5 := by kernel_rfl
  rw [run_slice_hm (P := Try.prog) (w := W) 79 oa N c (by rw [he]; exact Try.underlying79) .i64 .i64 E E (by omega) (by omega) (by omega), he, hs]
  simp [Result.andThen, sliced, h0]
theorem rowAt.cap {w : World} {e : TypeId} {size : Nat} {oa : Option Addr} {n cap : Nat} {xs : List Value} (h : rowAt w e size (.slice oa n cap) n xs) (k : Nat) (hk : k ≤ n) : rowAt w e size (.slice oa k k) k (xs.take (k * size)) := by
  obtain ⟨hm, hc⟩ := h.map0
  have h1 := h.sub 0 k k (Nat.zero_le _) hk (Nat.le_refl _) (Nat.le_trans hk hc)
  simp only [Nat.zero_mul, List.drop_zero, Nat.sub_zero] at h1
  rw [hm] at h1
  simpa using h1
/-- a file is cut -/
theorem set_cut {w w2 : World} {S : Nat → Prop} {q mb : Nat} {fv' : Value} {A B : List Fl} {x : Fl} {d1 : Dk} (ho : Only (fun k => k = q) w w2) (h2 : DiskIs w2 S q mb fv' (A ++ x :: B) d1) {oa : Option Addr} {c k : Nat} (hbv : x.bv = .slice oa x.f.bytes.length c) (hk : k ≤ x.f.bytes.length) {v : Int} (hv : v = ((min x.f.lasts k : Nat) : Int))
    {s : List UInt8} {t : F0 → F0} (hs : x.f.name = s) (ht : t x.f = { x.f with bytes := x.f.bytes.take k, lasts := min x.f.lasts k }) (n : Int) :
    OpIs w S q (n, d1.turn s t) (.returned (.int .i64 n)) ((w2.setCell ⟨x.blk, 0, none⟩ (.slice oa k k)).setCell ⟨x.blk, 1, none⟩ (.int .i64 v)) := by
  subst hv
  have hx := h2.each x (by simp)
  have hset : Only (fun k => k = x.blk) w2 ((w2.setCell ⟨x.blk, 0, none⟩ (.slice oa k k)).setCell ⟨x.blk, 1, none⟩ (.int .i64 ((min x.f.lasts k : Nat) : Int))) :=
    (only_setCell (fun k => k = x.blk) w2 x.blk 0 _ rfl).trans (only_setCell (fun k => k = x.blk) _ x.blk 1 _ rfl) (fun _ _ h => h)
  have hown : (Value.slice oa k k).ownBlock = x.bv.ownBlock := by
    rw [hbv]
    cases oa with
    | none => rfl
    | some a => rfl
  have hrow := hx.row
  rw [hbv] at hrow
  have hr2 := hrow.cap k hk
  rw [Nat.mul_one, byteCells_take] at hr2
  have hlen : (x.f.bytes.take k).length = k := by rw [List.length_take]; omega
  refine file_done (x' := ⟨{ x.f with bytes := x.f.bytes.take k, lasts := min x.f.lasts k }, x.blk, .slice oa k k⟩) ho h2 (hset.mono (fun i _ hi => by rw [hi]; simp [Fl.blocks])) rfl rfl ⟨?_, ?_, ?_, ?_⟩ (fun i hi => .inl (by rw [← hown]; exact hi)) hs ht.symm n
  · exact heap_setCell_here _ (heap_setCell_here (w := w2) _ hx.cells)
  · show rowAt _ _ 1 _ (x.f.bytes.take k).length (byteCells (x.f.bytes.take k))
    rw [hlen]
    exact hr2.kept (fun i hi => hset.block i (hr2.lt i hi) (FlAt.own_ne h2 i (by rw [← hown]; exact hi)))
  · show min x.f.lasts k ≤ (x.f.bytes.take k).length
    omega
  · show (x.f.bytes.take k).length ≤ 16777216
    have := hx.size
    omega
set_option maxRecDepth 100000 in
set_option maxHeartbeats 1000000 in
theorem cut_b {w : World} {S : Nat → Prop} {q : Nat} {d : Dk} (h : DiskAt w S q d) (nm : ByteArray) (hs : nm.size ≤ maxLen) (n : Int) :
    Calls Try.prog 49 #[.pointer (some ⟨q, 0, none⟩), .string nm, .int .i64 n] w fun e w' => OpIs w S q (d.cut nm.data.toList n) e w' := by
  obtain ⟨mb, fv, L, h⟩ := h
  go_enter Try.func49, Try.ntmps49
  go_wp2_with fail
  refine (find_b h nm hs).mono ?_
  rintro e w' ⟨hF, rfl⟩
  rcases hF with ⟨hn, rfl⟩ | ⟨hn, hf, rfl⟩ | ⟨hn, A, x, B, rfl, hxn, hxt, hf, rfl⟩
  · have HO : Hid (OpIs w' S q (d.cut nm.data.toList n) (.returned (.int .i64 2)) w') := Lib.hid (by
      rw [show d.cut nm.data.toList n = (2, d) by simp [Dk.cut, hn]]
      exact OpIs.same h 2)
    clear h hn
    go_wp2_with fail
    go_ret
    exact HO.out
  · have HO : Hid (OpIs w' S q (d.cut nm.data.toList n) (.returned (.int .i64 171)) w') := Lib.hid (by
      rw [show d.cut nm.data.toList n = (171, d) by simp [Dk.cut, hn, hf]]
      exact OpIs.same h 171)
    clear h hn hf
    go_wp2_with fail
    go_ret
    exact HO.out
  · have hx0 := h.each x (by simp)
    obtain ⟨oaf, cf, hbv, hnc⟩ := hx0.row.shape
    obtain ⟨N, hnn⟩ : ∃ N, x.f.bytes.length = N := ⟨_, rfl⟩
    obtain ⟨l, hll⟩ : ∃ l, x.f.lasts = l := ⟨_, rfl⟩
    have hxc := hx0.cells
    rw [hbv, hnn] at hxc
    have k0 : w'.cell? ⟨x.blk, 0, none⟩ = some (.slice oaf N cf) := cell_of hxc rfl
    have HBV := Lib.hid (And.intro hbv (And.intro hnn hll))
    have H := Lib.hid h
    have HN := Lib.hid (And.intro hn hf)
    clear h hn hf hxc hx0 hbv hnn hnc hll
    by_cases hbad : n < 0 ∨ (N : Int) < n
    · have HO : Hid (OpIs w' S q (d.cut nm.data.toList n) (.returned (.int .i64 4)) w') := Lib.hid (by
        rw [show d.cut nm.data.toList n = (4, d) by simp [Dk.cut, HN.out.1, HN.out.2, HBV.out.2.1, hbad]]
        exact OpIs.same H.out 4)
      by_cases e1 : n < 0
      · go_wp2_with fail
        go_ret
        exact HO.out
      · have e2 : (N : Int) < n := by omega
        go_wp2_with fail
        go_ret
        exact HO.out
    · obtain ⟨ν, rfl⟩ : ∃ ν : Nat, n = (ν : Int) := ⟨n.toNat, by omega⟩
      have hνN : ν ≤ N := by omega
      have d1 : decide ((ν : Int) < 0) = false := by simp
      have d2 : decide ((N : Int) < (ν : Int)) = false := by simp; omega
      go_wp2_with fail
      refine (step_b H.out).mono ?_
      rintro e w1 ⟨kd, kp, fv', rfl, hkp, h1, ho1⟩
      obtain ⟨er, her⟩ : ∃ er, d.fate.1 = er := ⟨_, rfl⟩
      rw [her]
      have H1 := Lib.hid h1
      have HO1 := Lib.hid ho1
      have HE := Lib.hid her
      clear h1 ho1 hkp her k0 d1 d2
      go_upto_region 7 with fail
      obtain ⟨w2, hw2⟩ : ∃ w2 : World, w2 = w1.alloc (.cells #[.int .i64 kd, .int .i64 kp] 99) := ⟨_, rfl⟩
      obtain ⟨r, hr⟩ : ∃ r, r = w1.heap.size := ⟨_, rfl⟩
      have h2 : DiskIs w2 S q mb fv' (A ++ x :: B) d.next := by rw [hw2]; exact H1.out.below ((Below.refl _ _).alloc (Nat.le_refl _) _)
      have ho2 : Only (fun k => k = q) w' w2 := by rw [hw2]; exact HO1.out.trans (only_alloc (fun k => k = q) _ _) (fun _ _ h => h)
      rw [← hw2, ← hr]
      clear hw2 hr H1 HO1
      by_cases h0 : er = 0
      · subst h0
        have hx := h2.each x (by simp)
        have hxc := hx.cells
        have hxr := hx.row
        rw [HBV.out.1, HBV.out.2.1, HBV.out.2.2] at hxc
        rw [HBV.out.1, HBV.out.2.1] at hxr
        obtain ⟨hm0, hNc⟩ := hxr.map0
        have hsl : ∀ W : World, (Instr.slice 79 (.slice oaf N cf) none (some (.int .i64 (ν : Int))) (some (.int .i64 (ν : Int)))).run Try.prog W = .ok (.slice oaf ν ν) W := fun W => run_both oaf N cf ν (by omega) hm0 W
        have k0 : w2.cell? ⟨x.blk, 0, none⟩ = some (.slice oaf N cf) := cell_of hxc rfl
        have z0 : w2.frozen? ⟨x.blk, 0, none⟩ = false := free_of hxc _
        have hc3 := heap_setCell_here (i := 0) (.slice oaf ν ν) hxc
        have k1 : (w2.setCell ⟨x.blk, 0, none⟩ (.slice oaf ν ν)).cell? ⟨x.blk, 1, none⟩ = some (.int .i64 l) := cell_of hc3 rfl
        have z1 : (w2.setCell ⟨x.blk, 0, none⟩ (.slice oaf ν ν)).frozen? ⟨x.blk, 1, none⟩ = false := free_of hc3 _
        have HO : Hid (∀ v : Int, v = ((min l ν : Nat) : Int) → OpIs w' S q (d.cut nm.data.toList ν) (.returned (.int .i64 0)) ((w2.setCell ⟨x.blk, 0, none⟩ (.slice oaf ν ν)).setCell ⟨x.blk, 1, none⟩ (.int .i64 v))) := Lib.hid (fun v hv => by
          have h3 := set_cut ho2 h2 (oa := oaf) (c := cf) (k := ν) HBV.out.1 (by rw [HBV.out.2.1]; exact hνN) (v := v) (by rw [HBV.out.2.2]; exact hv) (s := nm.data.toList) (t := fun f => { f with bytes := f.bytes.take ν, lasts := min f.lasts ν }) hxn rfl 0
          have hb' : ¬ ((ν : Int) < 0 ∨ (N : Int) < (ν : Int)) := hbad
          have e : d.cut nm.data.toList ν = (0, d.next.turn nm.data.toList fun f => { f with bytes := f.bytes.take ν, lasts := min f.lasts ν }) := by
            unfold Dk.cut
            rw [HN.out.1, HN.out.2]
            simp only [HBV.out.2.1, HE.out]
            rw [if_neg (by simp), if_neg hb', if_neg (by simp)]
            rfl
          rw [e]
          exact h3)
        clear h2 ho2 hx hxc hxr hm0 hc3
        go_wp2_with fail
        all_goals (go_ret; refine HO.out _ ?_; omega)
      · have hb0 : (er != 0) = true := by simpa using h0
        have HO : Hid (OpIs w' S q (d.cut nm.data.toList ν) (.returned (.int .i64 er)) w2) := Lib.hid (by
          rw [show d.cut nm.data.toList ν = (er, d.next) by
            unfold Dk.cut
            rw [HN.out.1, HN.out.2]
            simp only [HBV.out.2.1, HE.out]
            rw [if_neg (by simp), if_neg hbad, if_pos h0]]
          exact OpIs.next ho2 h2 er)
        clear h0 h2 ho2
        go_wp2_with fail
        go_ret
        exact HO.out
end Go.Proofs.Ytmkjejngnahpeaa
