/- The texts Pzh in one. -/
import Derived.Test.YtlgcoaeddeiegaaGreatV14
/- A log on a disk without fates, plainly: Append goes well. -/
namespace Go.Proofs.YtlgcoaeddeiegaaGreat
open Go Go.RowKit

/-- a log that lives on a disk without fates, whose files are all its own -/
structure Calm (log : ByteArray) (g : Lg) (d : Dk) : Prop where
  fates : d.fates = []
  files : ∀ f ∈ d.files, ∃ s ∈ g.segs, f.name = sname log s.1
  len : d.files.length ≤ g.segs.length
  sorted : (d.files.map (·.name)).Pairwise (· < ·)
  fit : LgFit log g d
  ok : LgOk g
  alive : g.dead = false
theorem fate_none {d : Dk} (h : d.fates = []) : d.fate = (0, 0) := by unfold Dk.fate; rw [h]
theorem sync_calm {d : Dk} {s : List UInt8} (hf : d.fates = []) (hn : nameOk s = true) {f : F0} (h : d.find s = some f) : (d.sync s).1 = 0 ∧ (d.sync s).2.fates = [] ∧ (d.sync s).2.files.length = d.files.length := by
  unfold Dk.sync
  rw [if_neg (by rw [hn]; simp), h]
  refine ⟨?_, ?_, ?_⟩
  · show d.fate.1 = 0
    rw [fate_none hf]
  · show d.fates.tail = []
    rw [hf]
    rfl
  · show (d.files.map _).length = _
    rw [List.length_map]
theorem append_calm {d : Dk} {s b : List UInt8} (hf : d.fates = []) (hn : nameOk s = true) {f : F0} (h : d.find s = some f) (hb : b.length + f.bytes.length ≤ 16777216) : (d.append s b).1 = 0 ∧ (d.append s b).2.fates = [] ∧ (d.append s b).2.files.length = d.files.length ∧ (d.append s b).2.files.map (·.name) = d.files.map (·.name) := by
  unfold Dk.append
  rw [if_neg (by rw [hn]; simp), h]
  dsimp only
  rw [if_neg (by omega)]
  refine ⟨?_, ?_, ?_, ?_⟩
  · show d.fate.1 = 0
    rw [fate_none hf]
  · show d.fates.tail = []
    rw [hf]
    rfl
  · show (d.files.map _).length = _
    rw [List.length_map]
  · show (d.files.map _).map _ = _
    rw [List.map_map]
    refine List.map_congr_left fun f _ => ?_
    show F0.name (if f.name = s then _ else f) = f.name
    split <;> rfl
theorem create_calm {d : Dk} {s : List UInt8} (hf : d.fates = []) (hn : nameOk s = true) (hnew : ∀ f ∈ d.files, f.name ≠ s) (hl : d.files.length < 4096) : (d.create s).1 = 0 ∧ (d.create s).2.fates = [] ∧ (d.create s).2.files = insF ⟨s, [], 0, true, false⟩ d.files := by
  have hat : d.at s = none := by
    unfold Dk.at
    exact List.find?_eq_none.2 (fun f hf => by simpa using hnew f hf)
  unfold Dk.create
  rw [if_neg (by rw [hn]; simp), if_neg (by rw [hat]; simp), if_neg (by omega), if_neg (by rw [fate_none hf]; simp)]
  refine ⟨rfl, ?_, rfl⟩
  show d.fates.tail = []
  rw [hf]
  rfl
theorem syncdir_calm {d : Dk} (hf : d.fates = []) : d.syncdir.1 = 0 ∧ d.syncdir.2.fates = [] ∧ d.syncdir.2.files = (d.files.filter (·.there)).map fun f => { f with named := true } := by
  unfold Dk.syncdir
  rw [if_neg (by rw [fate_none hf]; simp)]
  refine ⟨rfl, ?_, rfl⟩
  show d.fates.tail = []
  rw [hf]
  rfl
/-- what a good Append makes of a log -/
def Lg.putT (roll : Nat) (g : Lg) (l : List Rc) : Lg :=
  if roll ≤ (batsT g.lbs).length then ⟨g.segs, g.fin, [((g.fin : Int), l)], g.fin, g.dead⟩ else { g with lbs := g.lbs ++ [((g.fin : Int), l)] }
theorem names_of_map {d d' : Dk} {P : List UInt8 → Prop} (h : d'.files.map (·.name) = d.files.map (·.name)) (hP : ∀ f ∈ d.files, P f.name) : ∀ f ∈ d'.files, P f.name := fun f hf => by
  have h1 : f.name ∈ d'.files.map (·.name) := List.mem_map_of_mem hf
  rw [h] at h1
  obtain ⟨g, hg, e⟩ := List.mem_map.1 h1
  rw [← e]
  exact hP g hg
theorem add_calm {log : ByteArray} (hlog : loggedB log.data.toList = true) {g : Lg} {d : Dk} {l : List Rc} (h : Calm log g d) (hg : GoodB (g.fin : Int) l) (hb : (batsT g.lbs).length ≤ 16711680) :
    (g.addT log d l).1 = 0 ∧ (g.addT log d l).2.1 = { g with lbs := g.lbs ++ [((g.fin : Int), l)] } ∧ Calm log { g with lbs := g.lbs ++ [((g.fin : Int), l)] } (g.addT log d l).2.2 := by
  obtain ⟨f0, h1, h2⟩ := h.fit (g.lb, g.lbs) (by unfold Lg.segs; simp)
  have hn := sname_nameOk hlog g.lb
  have hz : (batchT (g.fin : Int) l).length ≤ 65536 := by rw [batchT_len]; exact hg.size
  have h2' : f0.bytes = batsT g.lbs := h2
  obtain ⟨a1, a2, a3, a4⟩ := append_calm (s := sname log g.lb) (b := batchT (g.fin : Int) l) h.fates hn h1 (by rw [h2']; omega)
  obtain ⟨k1, k2, k3⟩ := add_law hlog h.ok h.fit hg hn
  have e1 : (g.addT log d l).1 = 0 := a1
  have e2 : (g.addT log d l).2.1 = { g with lbs := g.lbs ++ [((g.fin : Int), l)] } := by
    unfold Lg.addT
    exact if_pos a1
  refine ⟨e1, e2, ?_⟩
  have k2' := k2 e1
  rw [e2] at k1 k2'
  refine ⟨a2, ?_, ?_, ?_, k2', k1, h.alive⟩
  · refine names_of_map (P := fun s => ∃ t ∈ Lg.segs { g with lbs := g.lbs ++ [((g.fin : Int), l)] }, s = sname log t.1) a4 (fun f hf => ?_)
    obtain ⟨t, ht, e⟩ := h.files f hf
    rcases List.mem_append.1 ht with ht | ht
    · exact ⟨t, List.mem_append_left _ ht, e⟩
    · rw [List.mem_singleton] at ht
      subst ht
      exact ⟨_, List.mem_append_right _ (List.mem_singleton.2 rfl), e⟩
  · have h3 := h.len
    show (d.append _ _).2.files.length ≤ (g.ini ++ [_]).length
    rw [a3]
    unfold Lg.segs at h3
    rw [List.length_append] at h3 ⊢
    exact h3
  · show ((d.append _ _).2.files.map _).Pairwise _
    rw [a4]
    exact h.sorted
theorem roll_calm {log : ByteArray} (hlog : loggedB log.data.toList = true) {g : Lg} {d : Dk} (h : Calm log g d) (hne : g.lbs ≠ []) (hfin : g.fin ≤ 9007199254740992) (hl : g.segs.length < 4096) :
    (g.rollT log d).1 = 0 ∧ (g.rollT log d).2.1 = ⟨g.segs, g.fin, [], g.fin, g.dead⟩ ∧ Calm log ⟨g.segs, g.fin, [], g.fin, g.dead⟩ (g.rollT log d).2.2 := by
  obtain ⟨f0, h1, h2⟩ := h.fit (g.lb, g.lbs) (by unfold Lg.segs; simp)
  obtain ⟨a1, a2, a3⟩ := sync_calm (s := sname log g.lb) h.fates (sname_nameOk hlog _) h1
  have hfl : g.lb < g.fin := by
    have := recsT_ne (h.ok.chain (g.lb, g.lbs) (by unfold Lg.segs; simp)).1 hne
    rw [recsT_len] at this
    unfold Lg.fin
    exact Nat.lt_add_of_pos_right this
  have hnew : ∀ f ∈ (d.sync (sname log g.lb)).2.files, f.name ≠ sname log g.fin := names_of_map (P := fun s => s ≠ sname log g.fin) (sync_names _ _) (fun f hf e => by
    obtain ⟨t, ht, e2⟩ := h.files f hf
    have h3 := sname_inj hlog (h.ok.chain t ht).2 hfin (e2.symm.trans e)
    rcases List.mem_append.1 ht with ht | ht
    · have := h.ok.last t ht
      omega
    · rw [List.mem_singleton] at ht
      subst ht
      exact Nat.lt_irrefl _ (h3 ▸ hfl))
  have hlen := h.len
  obtain ⟨b1, b2, b3⟩ := create_calm (s := sname log g.fin) a2 (sname_nameOk hlog _) hnew (by omega)
  obtain ⟨c1, c2, c3⟩ := syncdir_calm b2
  have hso : ((d.sync (sname log g.lb)).2.files.map (·.name)).Pairwise (· < ·) := by rw [sync_names]; exact h.sorted
  have hso2 := create_sorted (sname log g.fin) hso
  obtain ⟨k1, k2, k3⟩ := roll_law (log := log) h.ok h.fit hso2 hne hfin
  have e0 : g.rollT log d = (((d.sync (sname log g.lb)).2.create (sname log g.fin)).2.syncdir.1, ⟨g.segs, g.fin, [], g.fin, g.dead⟩, ((d.sync (sname log g.lb)).2.create (sname log g.fin)).2.syncdir.2) := by
    unfold Lg.rollT
    rw [if_neg (by rw [a1]; simp), if_neg (by rw [b1]; simp)]
  rw [e0] at k1 k2 k3 ⊢
  refine ⟨c1, rfl, c2, fun f hf => ?_, ?_, ?_, k2, k1, h.alive⟩
  · rw [c3, b3] at hf
    obtain ⟨y, hy, rfl⟩ := List.mem_map.1 hf
    rcases (mem_insF _ _ _).1 (List.mem_filter.1 hy).1 with rfl | hy
    · exact ⟨(g.fin, []), List.mem_append_right _ (List.mem_singleton.2 rfl), rfl⟩
    · obtain ⟨t, ht, e⟩ := names_of_map (P := fun s => ∃ t ∈ g.segs, s = sname log t.1) (sync_names _ _) (fun f hf => h.files f hf) y hy
      exact ⟨t, List.mem_append_left _ ht, e⟩
  · rw [c3, List.length_map, b3]
    have h5 := List.length_filter_le (fun f : F0 => f.there) (insF ⟨sname log g.fin, [], 0, true, false⟩ (d.sync (sname log g.lb)).2.files)
    rw [insF_length, a3] at h5
    show _ ≤ (g.segs ++ [(g.fin, [])]).length
    rw [List.length_append]
    show _ ≤ g.segs.length + 1
    omega
  · rw [c3, List.map_map]
    exact hso2.sublist (by rw [b3]; exact (List.filter_sublist (p := fun f : F0 => f.there)).map (fun f : F0 => f.name))
/-- an Append of what may be goes well -/
theorem appendT_calm {log : ByteArray} (hlog : loggedB log.data.toList = true) {roll : Nat} {g : Lg} {d : Dk} {l : List Rc} (h : Calm log g d) (hr : 1 ≤ roll ∧ roll ≤ 16711680) (hl : g.segs.length < 4096) (hf : (fitsT l).2 = 0) (hm : (g.fin : Int) + (l.length : Int) - 1 ≤ 9007199254740992) :
    g.appendT log roll d l = (0, g.putT roll l, (g.appendT log roll d l).2.2) ∧ Calm log (g.putT roll l) (g.appendT log roll d l).2.2 := by
  have hgood := (fits_good (base := (g.fin : Int)) hf (by omega) hm).1
  have hl1 := hgood.pos.1
  unfold Lg.appendT Lg.pushT Lg.putT
  rw [if_neg (by rw [h.alive]; simp), if_neg (by rw [hf]; simp), if_neg (by omega)]
  by_cases h3 : roll ≤ (batsT g.lbs).length
  · have hne : g.lbs ≠ [] := fun e => by
      rw [e] at h3
      have : roll ≤ 0 := h3
      omega
    obtain ⟨a1, a2, a3⟩ := roll_calm hlog h hne (by omega) hl
    have hf2 : Lg.fin ⟨g.segs, g.fin, [], g.fin, g.dead⟩ = g.fin := rfl
    obtain ⟨b1, b2, b3⟩ := add_calm hlog a3 (l := l) (by rw [hf2]; exact hgood) (by show (batsT []).length ≤ _; simp [batsT])
    rw [hf2] at b2 b3
    rw [if_pos h3, if_pos h3, if_neg (by rw [a1]; simp), a2, b1]
    refine ⟨?_, ?_⟩
    · unfold Lg.dies
      rw [if_pos rfl, b2]
      rfl
    · exact b3
  · obtain ⟨b1, b2, b3⟩ := add_calm hlog h (l := l) hgood (by omega)
    rw [if_neg h3, if_neg h3, b1]
    refine ⟨?_, b3⟩
    unfold Lg.dies
    rw [if_pos rfl, b2]
end Go.Proofs.YtlgcoaeddeiegaaGreat
