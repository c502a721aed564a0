/- cut.Out, of what Del makes of the shelf left open. -/
import Derived.Test.YtmagddchjidamaaGreatDoorHoldFreeze
namespace Go.Proofs.YtmagddchjidamaaGreatDoor
set_option linter.unusedSimpArgs false
set_option linter.unusedVariables false
open Go.RowKit Go.Shelf

/-- what Del makes of a shelf -/
def DelOK (tr : Option Tree) (n : Nat) (k : ByteArray) (tr' : Option Tree) (n' : Nat) : Prop := ∀ (w : World) (s : Nat) (most : Int) (L : List Nat), ShelfAt w s most tr n L → L.Nodup →
  Calls Tryz.prog 42 #[.pointer (some ⟨s, 0, none⟩), .string k] w fun e w' => (∃ v, e = .returned v) ∧ ∃ L', ShelfAt w' s most tr' n' L' ∧ L'.Nodup ∧ Turn L w w' L'

theorem at2it {w : World} {v : Value} {l : List Itm} (h : SlAt 2 encIt w v l) {i : Nat} {p : Itm} (hi : l[i]? = some p) : ∃ b o cap, v = .slice (some ⟨b, o, none⟩) l.length cap ∧ b < w.heap.size ∧
    w.cell? ⟨b, o + i * 2, none⟩ = some (.string p.1) ∧ w.cell? ⟨b, o + i * 2 + 1, none⟩ = some (.string p.2) := by
  obtain ⟨a, cap, hv, hx⟩ := h
  obtain ⟨b, o, rfl, hj⟩ := hx i p hi
  have h0 := hj 0 _ rfl
  exact ⟨b, o, cap, hv, cell_lt' h0, by simpa using h0, by simpa using hj 1 _ rfl⟩

set_option maxRecDepth 100000 in
set_option maxHeartbeats 8000000 in
theorem cut_out {w : World} {s : Nat} {most : Int} {tr : Option Tree} {n : Nat} {L : List Nat} {xs : List Itm} (hI : ItemsOK tr xs) (hxl : xs.length ≤ 1000000) {a : Arc} (ha : a.ok) (hsh : ShelfAt w s most tr n L) (hnd : L.Nodup)
    (T : Nat → Option Tree × Nat) (hT0 : T 0 = (tr, n)) (hT : ∀ k x, ((arcIts a xs).take 200)[k]? = some x → DelOK (T k).1 (T k).2 x.1 (T (k + 1)).1 (T (k + 1)).2) :
    Calls Tryz.prog 59 #[.pointer (some ⟨s, 0, none⟩), .agg #[.int .u64 a.f, .int .u64 a.t]] w fun e w2 => (∃ v, e = .returned v) ∧ ∃ L', ShelfAt w2 s most (T ((arcIts a xs).take 200).length).1 (T ((arcIts a xs).take 200).length).2 L' ∧ L'.Nodup ∧ Turn L w w2 L' := by
  have hcol := collect_arc hI hxl ha hsh
  have HS := Lib.hid hsh; have HN := Lib.hid hnd; have HT0 := Lib.hid hT0
  have HLT := Lib.hid hsh.lts
  obtain ⟨its, hits⟩ : ∃ its, its = (arcIts a xs).take 200 := ⟨_, rfl⟩
  have hlen : its.length ≤ 200 := by rw [hits, List.length_take]; omega
  rw [← hits] at hcol hT ⊢
  have HT := Lib.hid hT
  have HCOL := Lib.hid hcol
  clear hsh hnd hT hT0 hcol hits
  go_enter Tryz.func59, Tryz.ntmps59
  go_wp2_with fail
  refine (arc_make s a _).mono ?_
  rintro e w1 ⟨rfl, hw1⟩
  have hm1 : Mod NoB w w1 := by rw [hw1]; exact (((Mod.refl _ _).alloc _).alloc _).alloc _
  have x0 : w1.cell? ⟨w.heap.size + 1, 0, none⟩ = some (.pointer (some ⟨s, 0, none⟩)) := cell_of (by
    rw [hw1, Below.heap_alloc _ _ _ (by simp)]
    have := heap_alloc_new (w.alloc (.cells #[.int .u64 a.f, .int .u64 a.t] 29)) (.cells #[.pointer (some ⟨s, 0, none⟩)] 69)
    simpa using this) 0 rfl
  have y : w1.heap[w.heap.size + 1 + 1]? = some (.cells #[.int .u64 a.f, .int .u64 a.t] 29 (0, 0)) := by
    rw [hw1]
    have := heap_alloc_new ((w.alloc (.cells #[.int .u64 a.f, .int .u64 a.t] 29)).alloc (.cells #[.pointer (some ⟨s, 0, none⟩)] 69)) (.cells #[.int .u64 a.f, .int .u64 a.t] 29)
    simpa using this
  have x1 : w1.cell? ⟨w.heap.size + 1 + 1, 0, none⟩ = some (.int .u64 a.f) := cell_of y 0 rfl
  have x2 : w1.cell? ⟨w.heap.size + 1 + 1, 1, none⟩ = some (.int .u64 a.t) := cell_of y 1 rfl
  have hc1 := HCOL.out w1 hm1 (w.heap.size + 1) x0 x1 x2
  have HM1 := Lib.hid hm1
  clear hw1 hm1 x0 x1 x2 y
  go_wp2_with fail
  refine hc1.mono ?_
  rintro e w2 ⟨v, rfl, hr2, hm2⟩
  have HR2 := Lib.hid hr2
  have HM2 := Lib.hid (HM1.out.trans hm2)
  have hsl := own_slAt (k := 2) (enc := encIt) (fun _ => rfl) hr2
  have HSL := Lib.hid hsl
  have hnew : ∀ g ∈ ownL v, g ∉ L := fun g hg hb => by
    have h1 := (hr2.lt g (by simpa [ownL] using hg)).1
    have := HLT.out g hb
    have := HM1.out.size
    omega
  have HNW := Lib.hid hnew
  obtain ⟨av, capv, hvs, _⟩ := hsl
  subst hvs
  clear hr2 hm2 hc1 hnew
  go_wp2_with fail
  go_loopw [14] (fun i w3 => ∃ (k : Nat) (Lk : List Nat), k ≤ its.length ∧ i = .int .i64 k ∧ ShelfAt w3 s most (T k).1 (T k).2 Lk ∧ Lk.Nodup ∧ Turn L w2 w3 Lk) (fun i _ => its.length - (intOf i).toNat)
  case atStart =>
    refine ⟨0, L, Nat.zero_le _, rfl, ?_, HN.out, Turn.refl _ _⟩
    rw [HT0.out]
    exact HS.out.mod HM2.out (fun _ _ x => x)
  case round =>
    obtain ⟨k, Lk, hk, rfl, hsk, hnk, htk⟩ := hrel
    obtain ⟨wo, hwo⟩ : ∃ wo, wo = wr := ⟨_, rfl⟩
    subst hwo
    have HSK := Lib.hid hsk; have HNK := Lib.hid hnk; have HTK := Lib.hid htk
    clear hsk hnk htk
    by_cases hlt : k < its.length
    · have he : its[k]? = some its[k] := List.getElem?_eq_getElem hlt
      generalize its[k] = x at he
      have HLT2 := Lib.hid hlt
      obtain ⟨vb, vo, cap3, hv, hvlt, y0, y1⟩ := at2it HSL.out he
      simp only [Value.slice.injEq] at hv
      obtain ⟨rfl, _, rfl⟩ := hv
      have hvb : vb ∉ L := HNW.out vb (by simp [ownL, Value.ownBlock])
      have z0 := (HTK.out.1.cell (p := ⟨vb, vo + k * 2, none⟩) hvlt hvb).trans y0
      have z1 := (HTK.out.1.cell (p := ⟨vb, vo + k * 2 + 1, none⟩) hvlt hvb).trans y1
      clear y0 y1
      have HDEL := Lib.hid (HT.out k x he)
      go_wp2_with fail
      refine (HDEL.out _ s most Lk (HSK.out.mod ((Mod.refl NoB wo).alloc _) (fun _ _ x => x)) HNK.out).mono ?_
      rintro e w5 ⟨⟨dv, rfl⟩, L5, hs5, hn5, ht5⟩
      have HS5 := Lib.hid hs5; have HN5 := Lib.hid hn5; have HT5 := Lib.hid ht5
      clear hs5 hn5 ht5
      go_wp2_with fail
      go_roundw
      case rel =>
        exact ⟨k + 1, L5, HLT2.out, by go_num, HS5.out, HN5.out, HTK.out.trans (Turn.trans (B := Lk) ⟨(Mod.refl _ _).alloc _, fun _ hk => .inl hk⟩ HT5.out)⟩
      case measure => have := HLT2.out; simp [intOf]; omega
    · obtain rfl : k = its.length := by omega
      go_wp2_with fail
      go_ret
      exact ⟨⟨_, rfl⟩, Lk, HSK.out, HNK.out, Turn.trans (B := L) ⟨HM2.out.mono (fun _ _ x => x.elim), fun _ hk => .inl hk⟩ HTK.out⟩
end Go.Proofs.YtmagddchjidamaaGreatDoor
