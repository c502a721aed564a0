/- walk.All goes through all items of a shelf, each once, rising. -/
import Derived.Test.YtmagddchjidamaaGreatDoorScanKit
import Derived.Test.YtmagddchjidamaaGreatDoorWalkArc
import Derived.Test.YtmagddchjidamaaGreatDoorKeepsI
namespace Go.Proofs.YtmagddchjidamaaGreatDoor
set_option linter.unusedSimpArgs false
set_option linter.unusedVariables false
open Go.RowKit Go.Shelf
attribute [local go_sem] Oper.semAt_some

structure AllInv (Bo bi : Nat) (vl : Value) (xs : List Itm) (J : List Itm → World → Prop) (pre : List Itm) (wr : World) : Prop where
  ap : ApartI Bo bi wr (ownL vl)
  items : SlAt 2 encIt wr vl xs
  j : J pre wr

theorem AllInv.mod {Bo bi : Nat} {vl : Value} {xs : List Itm} {J : List Itm → World → Prop} {pre : List Itm} {wr w' : World} {B0 : Nat} (hJ : AbidesFrom B0 J) (h : AllInv Bo bi vl xs J pre wr) (hm : Mod NoB wr w') : AllInv Bo bi vl xs J pre w' :=
  ⟨h.ap.more hm (fun g hg => .inl hg), h.items.mod hm, abN hJ h.j hm⟩
theorem AllInv.keep {Bo bi : Nat} {vl : Value} {xs : List Itm} {J : List Itm → World → Prop} {pre pre' : List Itm} {wr w' : World} (h : AllInv Bo bi vl xs J pre wr) (hk : KeepsI Bo bi wr w') (hj : J pre' w') : AllInv Bo bi vl xs J pre' w' :=
  ⟨h.ap.keep hk, slAt_keepI h.items hk (fun g hg => h.ap.not g hg), hj⟩

set_option maxRecDepth 100000 in
set_option maxHeartbeats 8000000 in
theorem all1_in {n : Nat} (hn : 1 ≤ n) (l Bs Bo bi s : Nat) {most : Int} {tr : Option Tree} {cnt : Nat} {L : List Nat} {xs : List Itm} (hI : ItemsOK tr xs) (hxl : xs.length ≤ 1000000) (J Jx : List Itm → World → Prop) (W : World)
    (hJ : AbidesFrom W.heap.size J)
    (hY : ∀ pre x W1, J pre W1 → pre.length < xs.length → x ∈ xs → YieldAt Fence.wide (n - 1) Tryz.prog l (encKV x) W1 fun e W' =>
      (e = .returned (.bool true) ∧ J (pre ++ [x]) W' ∧ KeepsI Bo bi W1 W') ∨ (e = .returned (.bool false) ∧ Jx (pre ++ [x]) W'))
    (hs : W.cell? ⟨Bs, 0, none⟩ = some (.pointer (some ⟨s, 0, none⟩))) (hsh : ShelfAt W s most tr cnt L) (hap : ApartI Bo bi W []) (h0 : J [] W) :
    CallsIn Fence.wide n Tryz.prog 108 #[.func (.yield l) #[] #[], .pointer (some ⟨Bs, 0, none⟩)] W fun e W' => (∃ v, e = .returned v) ∧
      ((∃ ys, ys = xs ∧ J ys W') ∨ (∃ pre, pre <+: xs ∧ Jx pre W')) := by
  have HY := Lib.hid hY
  have HJ := Lib.hid hJ
  have HSH := Lib.hid hsh
  have HAP := Lib.hid hap
  have H0 := Lib.hid h0
  clear hY hJ hsh hap h0
  refine callsIn_wide.2 ?_
  go_enter Tryz.func108, Tryz.ntmps108
  go_wp2_with fail
  refine (hI W s most cnt L HSH.out).mono ?_
  rintro e w1 ⟨vl, rfl, hl1, hl2, hl3⟩
  have hinv : AllInv Bo bi vl xs J (xs.take 0) w1 := by
    refine ⟨HAP.out.more hl2 (fun g hg => .inr ⟨hl3 g hg, own_lt hl1 g hg⟩), own_slAt (k := 2) (enc := encIt) (fun _ => rfl) hl1, abN HJ.out (by simpa using H0.out) hl2⟩
  obtain ⟨av, capl, rfl, _⟩ := id hinv.items
  have HINV := Lib.hid hinv
  clear hinv hl1 hl2 hl3 hI hs
  go_wp2_with fail
  refine (wpIn_wide (n := n)).1 ?_
  gi_loopw [8] (fun i wr => ∃ j : Nat, j ≤ xs.length ∧ i = .int .i64 j ∧ AllInv Bo bi (.slice av xs.length capl) xs J (xs.take j) wr) (fun i _ => xs.length - (intOf i).toNat)
  case atStart => exact ⟨0, Nat.zero_le _, rfl, HINV.out⟩
  case round =>
    clear HINV
    obtain ⟨j, hj, rfl, hinvj⟩ := hrel
    have HINV := Lib.hid hinvj
    clear hinvj
    by_cases hltj : j < xs.length
    · have hex : xs[j]? = some xs[j] := List.getElem?_eq_getElem hltj
      have hmem : xs[j] ∈ xs := List.getElem_mem hltj
      generalize xs[j] = x at hex hmem
      obtain ⟨b', o', cap', hv, hb', r0, r1⟩ := at2 HINV.out.items hex
      simp only [Value.slice.injEq] at hv
      obtain ⟨rfl, _, rfl⟩ := hv
      have htk : xs.take (j + 1) = xs.take j ++ [x] := by rw [List.take_add_one, hex]; rfl
      have HTK := Lib.hid htk
      have HLJ := Lib.hid hltj
      clear hex htk
      have hinvA := HINV.out.mod HJ.out ((Mod.refl NoB wr).alloc (.cells #[.string x.1, .string x.2] 43))
      obtain ⟨fn, tmps, assign, body, hy, hR⟩ := HY.out _ x _ hinvA.j (by rw [List.length_take]; omega) hmem
      have HA := Lib.hid hinvA
      clear hinvA
      gi_wp2
      refine hR.mono ?_
      clear hR hy
      rintro e W3 (⟨rfl, hJ3, hk3⟩ | ⟨rfl, hJx3⟩)
      · have HJ3 := Lib.hid hJ3
        have HK3 := Lib.hid hk3
        clear hJ3 hk3
        gi_wp2
        refine ⟨⟨j + 1, HLJ.out, by go_num, ?_⟩, by have := HLJ.out; simp [intOf]; omega⟩
        rw [HTK.out]
        exact HA.out.keep HK3.out HJ3.out
      · have HJX := Lib.hid hJx3
        clear hJx3
        gi_wp2
        refine bodyPost_ret (results_none rfl _ _ _) rfl ⟨⟨_, rfl⟩, .inr ⟨_, ?_, HJX.out⟩⟩
        rw [← HTK.out]
        exact List.take_prefix _ _
    · obtain rfl : j = xs.length := by omega
      have HJE := Lib.hid HINV.out.j
      gi_wp2
      refine bodyPost_end (results_none rfl _ _ _) rfl ⟨⟨_, rfl⟩, .inl ⟨xs, rfl, ?_⟩⟩
      have := HJE.out
      rwa [List.take_length] at this

/-- one of the items -/
abbrev InOf (xs : List Itm) := { x : Itm // x ∈ xs }
abbrev encIn {xs : List Itm} (x : InOf xs) : Array Value := encKV x.1

theorem map_val_inj {xs : List Itm} {a b : List (InOf xs)} (h : a.map (·.1) = b.map (·.1)) : a = b :=
  (List.map_inj_right (fun x y e => Subtype.ext e)).1 h
theorem lift_list {xs : List Itm} : (l : List Itm) → (∀ x ∈ l, x ∈ xs) → ∃ l' : List (InOf xs), l'.map (·.1) = l
  | [], _ => ⟨[], rfl⟩
  | x :: l, h => by
    obtain ⟨l', e⟩ := lift_list l (fun y hy => h y (List.mem_cons_of_mem _ hy))
    exact ⟨⟨x, h x List.mem_cons_self⟩ :: l', by rw [List.map_cons, e]⟩

/-- a shelf's items as something to go through -/
theorem all_seq {s Bs : Nat} {most : Int} {tr : Option Tree} {cnt : Nat} {L : List Nat} {xs : List Itm} (hI : ItemsOK tr xs) (hxl : xs.length ≤ 1000000) {n : Nat} (hn : 1 ≤ n) {Bo bi : Nat} {W0 : World} (hBo : ApartI Bo bi W0 [])
    (hs : W0.cell? ⟨Bs, 0, none⟩ = some (.pointer (some ⟨s, 0, none⟩))) (hsh : ShelfAt W0 s most tr cnt L) :
    SeqStopsK Fence.wide n Tryz.prog 108 #[.pointer (some ⟨Bs, 0, none⟩)] (encIn (xs := xs)) (KeepsI Bo bi) (fun ys => ys.map (·.1) = xs) (fun pre => pre.map (·.1) <+: xs) xs.length W0 := by
  intro l J Jx W hW hJ hJx hY h0
  have hm := Mod.ofBelow hW
  refine (all1_in hn l Bs Bo bi s hI hxl (fun l W => ∃ l' : List (InOf xs), l'.map (·.1) = l ∧ J l' W) (fun l W => ∃ l' : List (InOf xs), l'.map (·.1) = l ∧ Jx l' W) W
    (fun q A B row hq hg hr => by obtain ⟨l', e, h⟩ := hq; exact ⟨l', e, hJ l' A B row h hg hr⟩) ?_ (hm.cellS hs) (hsh.mod hm (fun _ _ x => x)) (hBo.more hm (fun g hg => .inl hg)) ⟨[], rfl, h0⟩).mono ?_
  · rintro pre x W1 ⟨l', rfl, hj⟩ hlen hx
    obtain ⟨fn, tmps, assign, body, hy, hR⟩ := hY l' ⟨x, hx⟩ W1 hj (by simpa using hlen)
    refine ⟨fn, tmps, assign, body, hy, hR.mono ?_⟩
    rintro e W' (⟨h1, h2, h3⟩ | ⟨h1, h2⟩)
    · exact .inl ⟨h1, ⟨_, by rw [List.map_append]; rfl, h2⟩, h3⟩
    · exact .inr ⟨h1, ⟨_, by rw [List.map_append]; rfl, h2⟩⟩
  · rintro e W' ⟨hv, (⟨ys, rfl, l', e, h⟩ | ⟨pre, hp, l', e, h⟩)⟩
    · exact ⟨hv, .inl ⟨l', e, h⟩⟩
    · exact ⟨hv, .inr ⟨l', show l'.map (·.1) <+: xs by rw [e]; exact hp, h⟩⟩
end Go.Proofs.YtmagddchjidamaaGreatDoor
