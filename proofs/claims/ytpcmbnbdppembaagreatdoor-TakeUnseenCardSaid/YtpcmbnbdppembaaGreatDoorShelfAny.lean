/- Put together out of: ShelfAny, ShelfAny2, ShelfAny3. -/
import Derived.Test.YtpcmbnbdppembaaGreatDoorTreeAll
import Derived.Test.YtpcmbnbdppembaaGreatDoorShelfPut
import Derived.Deep.DeepCutAuto
/- A shelf of whatever tree: its invariant, Get, Put. -/
namespace Go.Proofs.YtpcmbnbdppembaaGreatDoor
set_option linter.unusedSimpArgs false
set_option linter.unusedVariables false
open Go.RowKit Go.Shelf
attribute [local go_sem ↓] Go.wp_at_zero Go.wp_at_succ

/-- a shelf's tree that is well formed, with its items -/
def ShOK (tr : Option Tree) (xs : List Itm) (n : Nat) : Prop :=
  n = xs.length ∧ Rising xs ∧ (∀ x ∈ xs, x.1.size ≤ 16) ∧
  match tr with
  | none => xs = []
  | some t => ∃ d, okT d t ∧ t.its = xs ∧ 1 ≤ t.xs.length

theorem ShOK.items {tr : Option Tree} {xs : List Itm} {n : Nat} (h : ShOK tr xs n) (hl : xs.length ≤ 100000) : ItemsOK tr xs := by
  obtain ⟨_, _, _, h⟩ := h
  cases tr with
  | none => simp only at h; subst h; exact items_none
  | some t =>
    obtain ⟨d, h1, h2, _⟩ := h
    subst h2
    exact items_tree h1 hl

theorem ShOK.start : ShOK none [] 0 := ⟨rfl, Rising.nil, fun x h => absurd h List.not_mem_nil, rfl⟩

set_option maxRecDepth 100000 in
set_option maxHeartbeats 8000000 in
theorem sget_any {w : World} {s : Nat} {most : Int} {tr : Option Tree} {n : Nat} {L : List Nat} {xs : List Itm} (h : ShelfAt w s most tr n L) (hn : L.Nodup) (ho : ShOK tr xs n) (k : ByteArray) (hk : k.size ≤ 1000000) :
    Calls Tryz.prog 58 #[.pointer (some ⟨s, 0, none⟩), .string k] w fun e w' => e = .returned (.tuple #[.string ((getS k xs).getD ⟨#[]⟩), .bool (getS k xs).isSome]) ∧ Mod NoB w w' := by
  obtain ⟨o1, o2, o3, o4⟩ := ho
  cases tr with
  | none =>
    simp only at o4
    subst o4
    exact get_none k w s most n L h
  | some t =>
    obtain ⟨d, q1, q2, q3⟩ := o4
    subst q2
    unfold ShelfAt at h
    obtain ⟨b, Lt, h1, h2, rfl⟩ := h
    have c2 : w.cell? ⟨s, 2, none⟩ = some (.pointer (some ⟨b, 0, none⟩)) := cell_of h1 2 rfl
    have hfind := find_some c2 (treeP_at h2) q1 o2 (List.nodup_cons.1 hn).2 (fun x hx => Nat.le_trans (o3 x hx) (by decide)) k hk
    have HF := Lib.hid hfind
    clear h1 h2 hfind c2
    go_enter Tryz.func58, Tryz.ntmps58
    go_wp2_with fail
    refine HF.out.mono ?_
    rintro e w1 (⟨hg, rfl, hm⟩ | ⟨xb, g, i, n2, cap, vv, hg, rfl, hm, r1, r2, r3, r4, r5, r6, r7, r8, r9, r10, r11⟩)
    · have HM := Lib.hid hm; have HG := Lib.hid hg
      clear hm hg
      go_wp2_with fail
      go_ret2
      exact ⟨by rw [HG.out]; rfl, HM.out⟩
    · have k0 := hm.cellS r1
      have k1 := hm.cellS r4
      have k2 := hm.cellS r5
      have HM := Lib.hid hm; have HG := Lib.hid hg
      have hi9 : (i : Int) < (n2 : Int) := by omega
      clear hm hg r1 r4 r5 r6 r7 r8 r9 r10 r11
      go_wp2_with fail
      try go_quiet (fail)
      go_wp2_with fail
      go_ret2
      exact ⟨by rw [HG.out]; rfl, by first | exact HM.out | exact HM.out.drewN _⟩

/-! ### Put -/
theorem right_any (k : ByteArray) (w : World) (hk : k.size ≤ 1000000000) : Calls Tryz.prog 138 #[.string k] w fun e w' => e = .returned (.int .i64 (if 1 ≤ k.size ∧ k.size ≤ 16 then 0 else 3)) ∧ w' = w := by
  by_cases h : 1 ≤ k.size ∧ k.size ≤ 16
  · rw [if_pos h]; exact right_ok k w h.1 h.2
  · rw [if_neg h]
    by_cases h0 : k.size = 0
    · have hk0 : k = ⟨#[]⟩ := by
        cases k with
        | mk d =>
          have : d = #[] := Array.eq_empty_of_size_eq_zero h0
          rw [this]
      subst hk0
      go_enter Tryz.func138, Tryz.ntmps138
      go_wp2
      all_goals (go_ret; exact ⟨rfl, rfl⟩)
    · have hz : (16 : Int) < (k.size : Int) := by omega
      have hl : ¬ k.toList = [] := fun e => by
        have := congrArg List.length e
        rw [Lib.toList_data] at this
        have h3 : k.size = k.data.toList.length := rfl
        rw [this, List.length_nil] at h3
        omega
      have hi : k.toList.isEmpty = false := by simpa using hl
      go_enter Tryz.func138, Tryz.ntmps138
      go_wp2
      all_goals (go_ret; exact ⟨rfl, rfl⟩)

theorem value_any (v : ByteArray) (w : World) (hk : v.size ≤ 1000000000) : Calls Tryz.prog 140 #[.string v] w fun e w' => e = .returned (.int .i64 (if v.size ≤ 16 then 0 else 4)) ∧ w' = w := by
  by_cases h : v.size ≤ 16
  · rw [if_pos h]; exact value_ok v w h
  · rw [if_neg h]
    have hz : (16 : Int) < (v.size : Int) := by omega
    go_enter Tryz.func140, Tryz.ntmps140
    go_wp2
    all_goals (go_ret; exact ⟨rfl, rfl⟩)

/-- what Put gives -/
def putErr (most : Int) (k v : ByteArray) (xs : List Itm) : Int :=
  if ¬ (1 ≤ k.size ∧ k.size ≤ 16) then 3 else if ¬ v.size ≤ 16 then 4 else if (getS k xs).isSome then 0 else if most ≤ xs.length then 5 else 0
def putIts (most : Int) (k v : ByteArray) (xs : List Itm) : List Itm :=
  if ¬ (1 ≤ k.size ∧ k.size ≤ 16) then xs else if ¬ v.size ≤ 16 then xs else if (getS k xs).isSome then setS k v xs else if most ≤ xs.length then xs else insS (k, v) xs

def SPutE (w : World) (s : Nat) (most : Int) (L : List Nat) (er : Int) (xs' : List Itm) (e : Ending) (w' : World) : Prop :=
  e = .returned (.int .i64 er) ∧ ∃ tr' n' L', ShelfAt w' s most tr' n' L' ∧ L'.Nodup ∧ Turn L w w' L' ∧ ShOK tr' xs' n'

theorem setS_small {k v : ByteArray} {xs : List Itm} (h : ∀ x ∈ xs, x.1.size ≤ 16) : ∀ x ∈ setS k v xs, x.1.size ≤ 16 := by
  intro x hx
  have : x.1 ∈ (setS k v xs).map (·.1) := List.mem_map_of_mem hx
  rw [setS_fst] at this
  obtain ⟨y, hy, e⟩ := List.mem_map.1 this
  rw [← e]
  exact h y hy

/-- what stands behind the root's put -/
def CutS (w : World) (s : Nat) (most : Int) (n b d : Nat) (t : Tree) (Lt : List Nat) (it : Itm) (s11 s12 : Value) (W : World) : Prop :=
  ∃ up q LX U, s11 = .pointer (some ⟨U, 0, none⟩) ∧ s12 = .pointer q ∧ PutR w b d t Lt it q up LX W ∧ W.heap[s]? = some (.cells #[.int .i64 most, .int .i64 n, .pointer (some ⟨b, 0, none⟩)] 192 (0, 0)) ∧
    W.heap[U]? = some (.cells #[.string up.1, .string up.2] 73 (0, 0)) ∧ s ∉ LX ∧ U ∉ LX ∧ w.heap.size ≤ U

theorem cutS_of {w W w7 : World} {s n b d U : Nat} {most : Int} {t : Tree} {Lt LX : List Nat} {it up : Itm} {q : Option Addr} (hs : w.heap[s]? = some (.cells #[.int .i64 most, .int .i64 n, .pointer (some ⟨b, 0, none⟩)] 192 (0, 0))) (hsL : s ∉ Lt) (hLt : ∀ k ∈ Lt, k < w.heap.size)
    (hP : PutR W b d t Lt it q up LX w7) (hM : Mod NoB w W) (hU : U = w7.heap.size) (hX : ∀ k ∈ LX, k < w7.heap.size) :
    CutS w s most n b d t Lt it (.pointer (some ⟨U, 0, none⟩)) (.pointer q) (w7.alloc (.cells #[.string up.1, .string up.2] 73)) := by
  have hT := hP.1
  have hsw := (Array.getElem?_eq_some_iff.1 hs).1
  have ha : Mod NoB w7 (w7.alloc (.cells #[.string up.1, .string up.2] 73)) := (Mod.refl _ _).alloc _
  have h1 := hM.size
  have h2 := hT.1.size
  refine ⟨up, q, LX, U, rfl, rfl, (hP.from hM).mod ha, heap_keep (heap_keep hs hM hT.1 (fun x => x) hsL) (Mod.refl NoB _) ha (fun x => x) (fun x => x), by rw [hU]; exact heap_alloc_new w7 _, fun e => ?_, fun e => ?_, by omega⟩
  · rcases hT.2 s e with h | h
    · exact hsL h
    · omega
  · have := hX U e; omega

theorem cutS_of2 {w W w7 : World} {s n b d U : Nat} {most : Int} {t : Tree} {Lt LX : List Nat} {it up : Itm} {q : Option Addr} (hs : w.heap[s]? = some (.cells #[.int .i64 most, .int .i64 n, .pointer (some ⟨b, 0, none⟩)] 192 (0, 0))) (hsL : s ∉ Lt) (hLt : ∀ k ∈ Lt, k < w.heap.size)
    (hP : PutR W b d t Lt it q up LX w7) (hM : Mod NoB w W) (hU : w.heap.size ≤ U) (hUW : U < W.heap.size) (hk : w7.heap[U]? = some (.cells #[.string ⟨#[]⟩, .string ⟨#[]⟩] 73 (0, 0))) :
    CutS w s most n b d t Lt it (.pointer (some ⟨U, 0, none⟩)) (.pointer q) ((w7.setCell ⟨U, 0, none⟩ (.string up.1)).setCell ⟨U, 1, none⟩ (.string up.2)) := by
  have hT := hP.1
  have hsw := (Array.getElem?_eq_some_iff.1 hs).1
  have hm : Mod (· = U) w7 ((w7.setCell ⟨U, 0, none⟩ (.string up.1)).setCell ⟨U, 1, none⟩ (.string up.2)) := Mod.setCell (S := (· = U)) (Mod.setCell (S := (· = U)) (Mod.refl _ _) (p := ⟨U, 0, none⟩) (by intro _; rfl) _) (p := ⟨U, 1, none⟩) (by intro _; rfl) _
  have h1 := hM.size
  have hUX : U ∉ LX := fun e => by
    rcases hT.2 U e with h | h
    · have := hLt U h; omega
    · omega
  refine ⟨up, q, LX, U, rfl, rfl, (hP.from hM).other hm hUX hU, heap_keep (heap_keep hs hM hT.1 (fun x => x) hsL) (Mod.refl NoB _) hm (fun x => x) (by omega), ?_, fun e => ?_, hUX, hU⟩
  · have := heap_set (heap_set hk 0 (.string up.1)) 1 (.string up.2)
    simpa using this
  · rcases hT.2 s e with h | h
    · exact hsL h
    · omega

theorem PutR.lts {w w' : World} {b d : Nat} {t : Tree} {L LX : List Nat} {it up : Itm} {q : Option Addr} (h : PutR w b d t L it q up LX w') : ∀ k ∈ LX, k < w'.heap.size := by
  rcases h.2.2 with ⟨_, t', q1, _⟩ | ⟨c2, t1, t2, L1, L2, _, q1, q2, q3, _⟩
  · exact q1.lts
  · intro k hk
    rcases List.mem_append.1 (q3.mem_iff.1 hk) with h | h
    · exact q1.lts k h
    · exact q2.lts k h
end Go.Proofs.YtpcmbnbdppembaaGreatDoor

/- (*shelf.Shelf).Put, of any tree. -/
namespace Go.Proofs.YtpcmbnbdppembaaGreatDoor
set_option linter.unusedSimpArgs false
set_option linter.unusedVariables false
open Go.RowKit Go.Shelf
attribute [local go_sem ↓] Go.wp_at_zero Go.wp_at_succ

/-- a key or a value that may not be -/
theorem sput_bad {w : World} {s : Nat} {most : Int} {tr : Option Tree} {n : Nat} {L : List Nat} {xs : List Itm} (h : ShelfAt w s most tr n L) (hn : L.Nodup) (ho : ShOK tr xs n) (k v : ByteArray) (hk : k.size ≤ 1000000) (hv : v.size ≤ 1000000)
    (hb : ¬ ((1 ≤ k.size ∧ k.size ≤ 16) ∧ v.size ≤ 16)) :
    Calls Tryz.prog 141 #[.pointer (some ⟨s, 0, none⟩), .string k, .string v] w (SPutE w s most L (putErr most k v xs) (putIts most k v xs)) := by
  have key : ∀ e w', e = Ending.returned (.int .i64 (putErr most k v xs)) → w' = w → putIts most k v xs = xs → SPutE w s most L (putErr most k v xs) (putIts most k v xs) e w' := by
    rintro e w' rfl rfl hx
    rw [hx]
    exact ⟨rfl, tr, n, L, h, hn, Turn.refl _ _, ho⟩
  have KEY := Lib.hid key
  by_cases hkk : 1 ≤ k.size ∧ k.size ≤ 16
  · have hvv : ¬ v.size ≤ 16 := fun e => hb ⟨hkk, e⟩
    have e1 : putErr most k v xs = 4 := by unfold putErr; rw [if_neg (by simpa using hkk), if_pos hvv]
    have e2 : putIts most k v xs = xs := by unfold putIts; rw [if_neg (by simpa using hkk), if_pos hvv]
    have hr := fun W => right_any k W (by omega)
    have hva := fun W => value_any v W (by omega)
    simp only [if_pos hkk] at hr
    simp only [if_neg hvv] at hva
    have HR := Lib.hid hr; have HV := Lib.hid hva; have E1 := Lib.hid e1; have E2 := Lib.hid e2
    clear h hn ho hb key hkk hvv hr hva e1 e2
    go_enter Tryz.func141, Tryz.ntmps141
    go_wp2_with fail
    refine (HR.out _).mono ?_
    rintro e w1 ⟨rfl, hww⟩
    rw [hww]
    clear hww
    go_wp2_with fail
    refine (HV.out _).mono ?_
    rintro e w1 ⟨rfl, hww⟩
    rw [hww]
    clear hww
    go_wp2_with fail
    go_ret
    exact KEY.out _ _ (by rw [E1.out]; rfl) rfl E2.out
  · have e1 : putErr most k v xs = 3 := by unfold putErr; rw [if_pos hkk]
    have e2 : putIts most k v xs = xs := by unfold putIts; rw [if_pos hkk]
    have hr := fun W => right_any k W (by omega)
    simp only [if_neg hkk] at hr
    have HR := Lib.hid hr; have E1 := Lib.hid e1; have E2 := Lib.hid e2
    clear h hn ho hb key hkk hr e1 e2
    go_enter Tryz.func141, Tryz.ntmps141
    go_wp2_with fail
    refine (HR.out _).mono ?_
    rintro e w1 ⟨rfl, hww⟩
    rw [hww]
    clear hww
    go_wp2_with fail
    go_ret
    exact KEY.out _ _ (by rw [E1.out]; rfl) rfl E2.out

theorem shelf_of {w : World} {s n b : Nat} {most : Int} {t : Tree} {LX : List Nat} (hs : w.heap[s]? = some (.cells #[.int .i64 most, .int .i64 n, .pointer (some ⟨b, 0, none⟩)] 192 (0, 0))) (ht : TreeP w b t LX) (hn : LX.Nodup) (hsX : s ∉ LX) :
    ∃ L', ShelfAt w s most (some t) n (s :: L') ∧ (s :: L').Nodup ∧ L'.Perm LX := by
  obtain ⟨L', h1, h2⟩ := ht.at
  refine ⟨L', ?_, List.nodup_cons.2 ⟨fun e => hsX (h2.mem_iff.1 e), (h2.nodup_iff).2 hn⟩, h2⟩
  unfold ShelfAt
  exact ⟨b, L', hs, h1, rfl⟩

theorem turn_cons {w w' : World} {s : Nat} {Lt LX L' : List Nat} (hm : Mod (· ∈ s :: Lt) w w') (hx : ∀ k ∈ LX, k ∈ Lt ∨ w.heap.size ≤ k) (hp : L'.Perm LX) : Turn (s :: Lt) w w' (s :: L') :=
  ⟨hm, fun k hk => by
    rcases List.mem_cons.1 hk with rfl | hk
    · exact .inl List.mem_cons_self
    · exact (hx k (hp.mem_iff.1 hk)).imp (fun h => List.mem_cons_of_mem _ h) id⟩

/-- what stands behind the making of a new root -/
def CutN (w : World) (s : Nat) (most : Int) (n : Nat) (up : Itm) (t1 t2 : Tree) (L1 L2 : List Nat) (W : World) : Prop :=
  ∃ g gi gc, W.heap[s]? = some (.cells #[.int .i64 most, .int .i64 n, .pointer (some ⟨g, 0, none⟩)] 192 (0, 0)) ∧ TreeP W g (.mk [up] [t1, t2]) (g :: gi :: gc :: (L1 ++ L2)) ∧
    w.heap.size ≤ g ∧ w.heap.size ≤ gi ∧ w.heap.size ≤ gc ∧ g ≠ gi ∧ g ≠ gc ∧ gi ≠ gc ∧ Mod (· = s) w W

theorem cutN_of {w W : World} {s n b c g gi gc : Nat} {most : Int} {up : Itm} {t1 t2 : Tree} {L1 L2 : List Nat} (hs : w.heap[s]? = some (.cells #[.int .i64 most, .int .i64 n, .pointer (some ⟨b, 0, none⟩)] 192 (0, 0))) (h1 : TreeP w b t1 L1) (h2 : TreeP w c t2 L2)
    (hs1 : s ∉ L1) (hs2 : s ∉ L2) (hM : Mod NoB w W) (hi : W.heap[gi]? = some (.cells #[.string up.1, .string up.2] 73 (0, 0))) (hc : W.heap[gc]? = some (.cells #[.pointer (some ⟨b, 0, none⟩), .pointer (some ⟨c, 0, none⟩)] 185 (0, 0)))
    (hg : W.heap[g]? = some (.cells #[.slice (some ⟨gi, 0, none⟩) 1 1, .slice (some ⟨gc, 0, none⟩) 2 2] 190 (0, 0))) (a1 : w.heap.size ≤ g) (a2 : w.heap.size ≤ gi) (a3 : w.heap.size ≤ gc) (b1 : g ≠ gi) (b2 : g ≠ gc) (b3 : gi ≠ gc) :
    CutN w s most n up t1 t2 L1 L2 (W.setCell ⟨s, 2, none⟩ (.pointer (some ⟨g, 0, none⟩))) := by
  have hm : Mod (· = s) W (W.setCell ⟨s, 2, none⟩ (.pointer (some ⟨g, 0, none⟩))) := Mod.setCell (S := (· = s)) (Mod.refl _ _) (by intro _; rfl) _
  have hsw := (Array.getElem?_eq_some_iff.1 hs).1
  have e1 := (h1.mod hM (fun _ _ x => x)).mod hm (fun k hk e => hs1 (e ▸ hk))
  have e2 := (h2.mod hM (fun _ _ x => x)).mod hm (fun k hk e => hs2 (e ▸ hk))
  refine ⟨g, gi, gc, ?_, ?_, a1, a2, a3, b1, b2, b3, (hM.mono (fun _ _ x => x.elim)).then hm (fun _ _ x => x)⟩
  · have := heap_set (heap_keep2 hs hM (Mod.refl NoB _) (fun x => x)) 2 (.pointer (some ⟨g, 0, none⟩))
    simpa using this
  · have k1 : (W.setCell ⟨s, 2, none⟩ (.pointer (some ⟨g, 0, none⟩))).heap[gi]? = _ := (heap_set_other (by omega) _ _).trans hi
    have k2 : (W.setCell ⟨s, 2, none⟩ (.pointer (some ⟨g, 0, none⟩))).heap[gc]? = _ := (heap_set_other (by omega) _ _).trans hc
    have k3 : (W.setCell ⟨s, 2, none⟩ (.pointer (some ⟨g, 0, none⟩))).heap[g]? = _ := (heap_set_other (by omega) _ _).trans hg
    have r1 := ownsRow_of_heap (n := 1) (cap := 1) (k := 2) (cs := [up].flatMap encIt) k1 (by omega) (by unfold maxLen; omega) (by simp) (by simp [encIt])
    have r2 := ownsRow_of_heap (n := 2) (cap := 2) (k := 1) (cs := [b, c].flatMap encNd) k2 (by omega) (by unfold maxLen; omega) (by simp) (by simp [encNd])
    have := treeP_of ⟨k3, r1, r2⟩ (TreesP.cons e1 (TreesP.cons e2 (TreesP.nil _)))
    refine this.perm ?_
    simp [nodeL, ownL, Value.ownBlock]

theorem CutN.drew {w W : World} {s n : Nat} {most : Int} {up : Itm} {t1 t2 : Tree} {L1 L2 : List Nat} (h : CutN w s most n up t1 t2 L1 L2 W) : CutN w s most n up t1 t2 L1 L2 W.drew := by
  obtain ⟨g, gi, gc, h1, h2, h3, h4, h5, h6, h7, h8, h9⟩ := h
  exact ⟨g, gi, gc, h1, h2.mod (S := NoB) ((Mod.refl _ _).drew) (fun _ _ x => x), h3, h4, h5, h6, h7, h8, h9.drew⟩
theorem three_new (w : World) (p q r : Array Value) (e1 e2 e3 : TypeId) :
    (((w.alloc (.cells p e1)).alloc (.cells q e2)).alloc (.cells r e3)).heap[w.heap.size]? = some (.cells p e1 (0, 0)) ∧
    (((w.alloc (.cells p e1)).alloc (.cells q e2)).alloc (.cells r e3)).heap[w.heap.size + 1]? = some (.cells q e2 (0, 0)) ∧
    (((w.alloc (.cells p e1)).alloc (.cells q e2)).alloc (.cells r e3)).heap[w.heap.size + 1 + 1]? = some (.cells r e3 (0, 0)) := by
  have h : Mod NoB ((w.alloc (.cells p e1)).alloc (.cells q e2)) (((w.alloc (.cells p e1)).alloc (.cells q e2)).alloc (.cells r e3)) := (Mod.refl _ _).alloc _
  obtain ⟨a, b, c, d⟩ := two_new h
  refine ⟨a, b, ?_⟩
  have := heap_alloc_new ((w.alloc (.cells p e1)).alloc (.cells q e2)) (.cells r e3)
  simpa using this

theorem its_two (up : Itm) (t1 t2 : Tree) : (Tree.mk [up] [t1, t2]).its = t1.its ++ up :: t2.its := by
  simp [Tree.its, itsIn]

set_option maxRecDepth 100000 in
set_option maxHeartbeats 16000000 in
/-- into a tree -/
theorem sput_tree {w : World} {s n b d : Nat} {most : Int} {t : Tree} {Lt : List Nat} (hs : w.heap[s]? = some (.cells #[.int .i64 most, .int .i64 n, .pointer (some ⟨b, 0, none⟩)] 192 (0, 0))) (ht : TreeP w b t Lt) (hnd : (s :: Lt).Nodup)
    (ho : okT d t) (hr : Rising t.its) (hsm : ∀ x ∈ t.its, x.1.size ≤ 16) (hn : n = t.its.length) (hne : 1 ≤ t.xs.length) (k v : ByteArray) (hk1 : 1 ≤ k.size) (hk2 : k.size ≤ 16) (hv : v.size ≤ 16) (hmost : most ≤ 1000000) :
    Calls Tryz.prog 141 #[.pointer (some ⟨s, 0, none⟩), .string k, .string v] w (SPutE w s most (s :: Lt) (putErr most k v t.its) (putIts most k v t.its)) := by
  have hlt : s < w.heap.size := (Array.getElem?_eq_some_iff.1 hs).1
  have c0 : w.cell? ⟨s, 0, none⟩ = some (.int .i64 most) := cell_of hs 0 rfl
  have c1 : w.cell? ⟨s, 1, none⟩ = some (.int .i64 n) := cell_of hs 1 rfl
  have c2 : w.cell? ⟨s, 2, none⟩ = some (.pointer (some ⟨b, 0, none⟩)) := cell_of hs 2 rfl
  have hsL : s ∉ Lt := (List.nodup_cons.1 hnd).1
  have hndL : Lt.Nodup := (List.nodup_cons.1 hnd).2
  have hkey : ¬ ¬ (1 ≤ k.size ∧ k.size ≤ 16) := by simp; omega
  have hvv : ¬ ¬ v.size ≤ 16 := by simpa using hv
  have HS := Lib.hid hs; have HT := Lib.hid ht; have HO := Lib.hid ho; have HR := Lib.hid hr; have HSM := Lib.hid hsm; have HN := Lib.hid hn; have HNE := Lib.hid hne; have HSL := Lib.hid hsL; have HND := Lib.hid hndL
  have HKEY := Lib.hid hkey; have HVV := Lib.hid hvv
  have hlts := ht.lts
  have HLTS := Lib.hid hlts
  clear hs ht ho hr hsm hn hne hnd hsL hndL hkey hvv hlts
  go_enter Tryz.func141, Tryz.ntmps141
  go_wp2_with fail
  refine (right_ok k _ hk1 hk2).mono ?_
  rintro e w1 ⟨rfl, hww⟩
  rw [hww]
  clear hww
  go_wp2_with fail
  refine (value_ok v _ hv).mono ?_
  rintro e w1 ⟨rfl, hww⟩
  rw [hww]
  clear hww
  go_wp2_with fail
  refine (clone_any v _ (by omega)).mono ?_
  rintro e w2 ⟨rfl, hm2⟩
  have d0 := hm2.cellS c0
  have d1 := hm2.cellS c1
  have d2 := hm2.cellS c2
  have HM2 := Lib.hid hm2
  clear hm2 c0 c1 c2
  go_wp2_with fail
  refine (find_some d2 (HT.out.mod HM2.out (fun _ _ x => x)) HO.out HR.out HND.out (fun x hx => Nat.le_trans (HSM.out x hx) (by decide)) k (by omega)).mono ?_
  rintro e w3 (⟨hg, rfl, hm⟩ | ⟨xb, g, i, n2, cap, vv, hg, rfl, hm, r1, r2, r3, r4, r5, r6, r7, r8, r9, r10, r11⟩)
  · have HG := Lib.hid hg
    have e0 := hm.cellS d0; have e1 := hm.cellS d1; have e2 := hm.cellS d2
    have hlt2 := hm.size
    have hlt0 := HM2.out.size
    have M3 := Lib.hid (HM2.out.trans hm)
    clear hg hm d0 d1 d2
    by_cases hfull : most ≤ (n : Int)
    · go_wp2_with fail
      go_quiet (fail)
      go_wp2_with fail
      go_ret
      have hg2 : ¬ (getS k t.its).isSome = true := by rw [HG.out]; simp
      have hl2 : most ≤ (t.its.length : Int) := by rw [← HN.out]; exact hfull
      have hmm : Mod NoB w (w3.drewN nq) := (M3.out.drewN nq)
      have hs' := heap_keep HS.out (Mod.refl NoB _) hmm (fun x => x) (fun x => x)
      obtain ⟨L', p1, p2, p3⟩ := shelf_of hs' (HT.out.mod hmm (fun _ _ x => x)) HND.out HSL.out
      refine ⟨?_, some t, n, s :: L', p1, p2, turn_cons (hmm.mono (fun _ _ x => x.elim)) (fun k hk => .inl hk) p3, ?_⟩
      · unfold putErr
        rw [if_neg HKEY.out, if_neg HVV.out, if_neg hg2, if_pos hl2]
        rfl
      · unfold putIts
        rw [if_neg HKEY.out, if_neg HVV.out, if_neg hg2, if_pos hl2]
        exact ⟨HN.out, HR.out, HSM.out, d, HO.out, rfl, HNE.out⟩
    · have hful2 : (n : Int) < most := by omega
      go_wp2_with fail
      go_quiet (fail)
      have M4 := Lib.hid (M3.out.drewN nq)
      have g0 : (w3.drewN nq).cell? ⟨s, 0, none⟩ = some (.int .i64 most) := e0
      have g1 : (w3.drewN nq).cell? ⟨s, 1, none⟩ = some (.int .i64 n) := e1
      have g2 : (w3.drewN nq).cell? ⟨s, 2, none⟩ = some (.pointer (some ⟨b, 0, none⟩)) := e2
      have hlt4 : s < (w3.drewN nq).heap.size := by show s < w3.heap.size; omega
      generalize w3.drewN nq = w4 at *
      go_wp2_with fail
      have S4 : Hid (w4.heap[s]? = some (.cells #[.int .i64 most, .int .i64 n, .pointer (some ⟨b, 0, none⟩)] 192 (0, 0))) := Lib.hid (heap_keep HS.out (Mod.refl NoB _) M4.out (fun x => x) (fun x => x))
      have T4 := Lib.hid (HT.out.mod M4.out (fun _ _ x => x))
      clear e0 e1 e2 g0 g1
      have hsz4 : w.heap.size ≤ w4.heap.size := M4.out.size
      go_cut [11, 12] (fun s11 s12 wx => CutS w4 s most n b d t Lt (k, v) s11 s12 wx)
      case first =>
        have g2 : w4.cell? ⟨s, 2, none⟩ = some (.pointer (some ⟨b, 0, none⟩)) := cell_of S4.out 2 rfl
        have g2a : ∀ o, (w4.alloc o).cell? ⟨s, 2, none⟩ = some (.pointer (some ⟨b, 0, none⟩)) := fun o => ((Mod.refl NoB w4).alloc o).cellS g2
        go_region_law ((go_simp; (first | (go_at_call 189; refine (clone_any k _ (by omega)).mono ?_; rintro e w6 ⟨rfl, hm6⟩; (try (have ku : w6.heap[w4.heap.size]? = some (.cells #[.string ⟨#[]⟩, .string ⟨#[]⟩] 73 (0, 0)) := heap_keep2 (w := w4.alloc (.cells #[.string ⟨#[]⟩, .string ⟨#[]⟩] 73)) (heap_alloc_new w4 _) hm6 (Mod.refl NoB _) (fun x => x); have ku0 : w6.cell? ⟨w4.heap.size, 0, none⟩ = some (.string ⟨#[]⟩) := cell_of ku 0 rfl; have ku1 : w6.cell? ⟨w4.heap.size, 1, none⟩ = some (.string ⟨#[]⟩) := cell_of ku 1 rfl; have kuf0 := frozen_of ku 0; have kuf1 := frozen_of ku 1; have Ku := Lib.hid ku; clear ku)); (try (have ku : w6.heap[w4.heap.size]? = some (.cells #[.string ⟨#[]⟩, .string ⟨#[]⟩] 73 (0, 0)) := heap_keep2 (w := w4.alloc (.cells #[.string ⟨#[]⟩, .string ⟨#[]⟩] 73)) (heap_alloc_new w4 _) hm6 ((Mod.refl NoB _).drew) (fun x => x); have ku0 : w6.cell? ⟨w4.heap.size, 0, none⟩ = some (.string ⟨#[]⟩) := cell_of ku 0 rfl; have ku1 : w6.cell? ⟨w4.heap.size, 1, none⟩ = some (.string ⟨#[]⟩) := cell_of ku 1 rfl; have kuf0 := frozen_of ku 0; have kuf1 := frozen_of ku 1; have Ku := Lib.hid ku; clear ku)); (try (have ku : w6.heap[w4.heap.size]? = some (.cells #[.string ⟨#[]⟩, .string ⟨#[]⟩] 73 (0, 0)) := heap_keep2 (w := w4.alloc (.cells #[.string ⟨#[]⟩, .string ⟨#[]⟩] 73)) (heap_alloc_new w4 _) hm6 ((Mod.refl NoB _).drew.drew) (fun x => x); have ku0 : w6.cell? ⟨w4.heap.size, 0, none⟩ = some (.string ⟨#[]⟩) := cell_of ku 0 rfl; have ku1 : w6.cell? ⟨w4.heap.size, 1, none⟩ = some (.string ⟨#[]⟩) := cell_of ku 1 rfl; have kuf0 := frozen_of ku 0; have kuf1 := frozen_of ku 1; have Ku := Lib.hid ku; clear ku)); have M6 := Lib.hid (Mod.trans (S := NoB) (a := w4) (by repeat (first | exact Mod.refl _ _ | refine Mod.alloc ?_ _ | refine Mod.drew ?_)) hm6); have y2 : w6.cell? ⟨s, 2, none⟩ = some (.pointer (some ⟨b, 0, none⟩)) := M6.out.cellS g2; have y2a : ∀ o, (w6.alloc o).cell? ⟨s, 2, none⟩ = some (.pointer (some ⟨b, 0, none⟩)) := fun o => ((Mod.refl NoB w6).alloc o).cellS y2; have hs6 := M6.out.size; clear hm6) | (go_at_call 190; refine (put_ok d _ b t Lt (k, v) (T4.out.mod (M6.out.trans (by repeat (first | exact Mod.refl _ _ | refine Mod.alloc ?_ _ | refine Mod.drew ?_))) (fun _ _ x => x)) HO.out HND.out HR.out (fun x hx => Nat.le_trans (HSM.out x hx) (by decide)) (by show k.size ≤ _; omega) HG.out).mono ?_; rintro e w7 ⟨up, q, LX, rfl, hP⟩; (try (have kv := heap_keep2 Ku.out hP.1.1 (Mod.refl NoB _) (fun e => absurd (HLTS.out _ e) (by omega)); have kv0 : w7.cell? ⟨w4.heap.size, 0, none⟩ = some (.string ⟨#[]⟩) := cell_of kv 0 rfl; have kv1 : w7.cell? ⟨w4.heap.size, 1, none⟩ = some (.string ⟨#[]⟩) := cell_of kv 1 rfl; have kvf0 := frozen_of kv 0; have kvf1 := frozen_of kv 1; have Kv := Lib.hid kv; clear kv)); (try (have kv := heap_keep2 Ku.out hP.1.1 ((Mod.refl NoB _).drew) (fun e => absurd (HLTS.out _ e) (by omega)); have kv0 : w7.cell? ⟨w4.heap.size, 0, none⟩ = some (.string ⟨#[]⟩) := cell_of kv 0 rfl; have kv1 : w7.cell? ⟨w4.heap.size, 1, none⟩ = some (.string ⟨#[]⟩) := cell_of kv 1 rfl; have kvf0 := frozen_of kv 0; have kvf1 := frozen_of kv 1; have Kv := Lib.hid kv; clear kv)); (try (have kz : w7.heap[w6.heap.size]? = some (.cells #[.string ⟨#[]⟩, .string ⟨#[]⟩] 73 (0, 0)) := heap_keep2 (w := w6.alloc (.cells #[.string ⟨#[]⟩, .string ⟨#[]⟩] 73)) (heap_alloc_new w6 _) hP.1.1 (Mod.refl NoB _) (fun e => absurd (HLTS.out _ e) (by omega)); have kz0 : w7.cell? ⟨w6.heap.size, 0, none⟩ = some (.string ⟨#[]⟩) := cell_of kz 0 rfl; have kz1 : w7.cell? ⟨w6.heap.size, 1, none⟩ = some (.string ⟨#[]⟩) := cell_of kz 1 rfl; have kzf0 := frozen_of kz 0; have kzf1 := frozen_of kz 1; have Kz := Lib.hid kz; clear kz)); (try (have kz : w7.heap[w6.heap.size]? = some (.cells #[.string ⟨#[]⟩, .string ⟨#[]⟩] 73 (0, 0)) := heap_keep2 (w := w6.alloc (.cells #[.string ⟨#[]⟩, .string ⟨#[]⟩] 73)) (heap_alloc_new w6 _) hP.1.1 ((Mod.refl NoB _).drew) (fun e => absurd (HLTS.out _ e) (by omega)); have kz0 : w7.cell? ⟨w6.heap.size, 0, none⟩ = some (.string ⟨#[]⟩) := cell_of kz 0 rfl; have kz1 : w7.cell? ⟨w6.heap.size, 1, none⟩ = some (.string ⟨#[]⟩) := cell_of kz 1 rfl; have kzf0 := frozen_of kz 0; have kzf1 := frozen_of kz 1; have Kz := Lib.hid kz; clear kz)); (try (have kz : w7.heap[w6.heap.size]? = some (.cells #[.string ⟨#[]⟩, .string ⟨#[]⟩] 73 (0, 0)) := heap_keep2 (w := w6.alloc (.cells #[.string ⟨#[]⟩, .string ⟨#[]⟩] 73)) (heap_alloc_new w6 _) hP.1.1 ((Mod.refl NoB _).drew.drew) (fun e => absurd (HLTS.out _ e) (by omega)); have kz0 : w7.cell? ⟨w6.heap.size, 0, none⟩ = some (.string ⟨#[]⟩) := cell_of kz 0 rfl; have kz1 : w7.cell? ⟨w6.heap.size, 1, none⟩ = some (.string ⟨#[]⟩) := cell_of kz 1 rfl; have kzf0 := frozen_of kz 0; have kzf1 := frozen_of kz 1; have Kz := Lib.hid kz; clear kz)); have HP := Lib.hid hP; clear hP))))
        all_goals
          go_wp2_with fail
          go_meet
          have hlt4' := fun k hk => Nat.lt_of_lt_of_le (HLTS.out k hk) hsz4
          first
            | exact cutS_of S4.out HSL.out hlt4' HP.out (M6.out.trans (by repeat (first | exact Mod.refl _ _ | refine Mod.alloc ?_ _ | refine Mod.drew ?_))) rfl HP.out.lts
            | exact cutS_of2 S4.out HSL.out hlt4' HP.out (M6.out.trans (by repeat (first | exact Mod.refl _ _ | refine Mod.alloc ?_ _ | refine Mod.drew ?_))) (Nat.le_refl _) (Array.getElem?_eq_some_iff.1 Ku.out).1 Kv.out
            | exact cutS_of2 S4.out HSL.out hlt4' HP.out (M6.out.trans (by repeat (first | exact Mod.refl _ _ | refine Mod.alloc ?_ _ | refine Mod.drew ?_))) hs6 (by simp) Kz.out
      case rest =>
        obtain ⟨up, q, LX, U, rfl, rfl, hP, hS, hU, h1, h2, h3⟩ := hcut
        obtain ⟨W8, rfl⟩ : ∃ W8 : World, W8 = wc := ⟨_, rfl⟩
        have i0 : W8.cell? ⟨s, 0, none⟩ = some (.int .i64 most) := cell_of hS 0 rfl
        have i1 : W8.cell? ⟨s, 1, none⟩ = some (.int .i64 n) := cell_of hS 1 rfl
        have i2 : W8.cell? ⟨s, 2, none⟩ = some (.pointer (some ⟨b, 0, none⟩)) := cell_of hS 2 rfl
        have if1 := frozen_of hS 1
        have if2 := frozen_of hS 2
        have hins1 : putErr most k v t.its = 0 := by
          unfold putErr
          rw [if_neg HKEY.out, if_neg HVV.out, if_neg (by rw [HG.out]; simp), if_neg (by rw [← HN.out]; omega)]
        have hins2 : putIts most k v t.its = insS (k, v) t.its := by
          unfold putIts
          rw [if_neg HKEY.out, if_neg HVV.out, if_neg (by rw [HG.out]; simp), if_neg (by rw [← HN.out]; omega)]
        have hrest : ∀ (tr' : Option Tree), (match tr' with | none => insS (k, v) t.its = [] | some t' => ∃ d', okT d' t' ∧ t'.its = insS (k, v) t.its ∧ 1 ≤ t'.xs.length) → ShOK tr' (insS (k, v) t.its) (n + 1) := fun tr' h =>
          ⟨by rw [insS_length HR.out HG.out, HN.out], rising_insS HR.out, fun x hx => by
            rcases mem_insS hx with rfl | hx
            · exact hk2
            · exact HSM.out x hx, h⟩
        have I1 := Lib.hid hins1; have I2 := Lib.hid hins2; have HREST := Lib.hid hrest
        have HP := Lib.hid hP; have HS8 := Lib.hid hS; have HU8 := Lib.hid hU; have H1 := Lib.hid h1; have H2 := Lib.hid h2; have H3 := Lib.hid h3
        have hn9 : n ≤ 1000000 := by omega
        have hsw8 : s < W8.heap.size := (Array.getElem?_eq_some_iff.1 hS).1
        have hUw8 : U < W8.heap.size := (Array.getElem?_eq_some_iff.1 hU).1
        have hsU : s ≠ U := by omega
        clear hP hS hU h1 h2 h3 hins1 hins2 hrest
        rcases HP.out.2.2 with ⟨hq, t', p1, p2, p3, p4⟩ | ⟨c, t1, t2, L1, L2, hq, p1, p2, p3, p4, p5, p6, p7, p8⟩
        · subst hq
          have P1 := Lib.hid p1; have P2 := Lib.hid p2; have P3 := Lib.hid p3; have P4 := Lib.hid p4
          clear p1 p2 p3 p4
          go_wp2_with fail
          go_ret
          have hm9 : Mod (· = s) W8 (W8.setCell ⟨s, 1, none⟩ (.int .i64 ((n : Int) + 1))) := Mod.setCell (S := (· = s)) (Mod.refl _ _) (by intro _; rfl) _
          have hs9 : (W8.setCell ⟨s, 1, none⟩ (.int .i64 ((n : Int) + 1))).heap[s]? = some (.cells #[.int .i64 most, .int .i64 ((n + 1 : Nat) : Int), .pointer (some ⟨b, 0, none⟩)] 192 (0, 0)) := by
            have := heap_set HS8.out 1 (.int .i64 ((n : Int) + 1))
            simpa using this
          obtain ⟨L', y1, y2, y3⟩ := shelf_of hs9 (P1.out.mod hm9 (fun k hk e => H1.out (e ▸ hk))) HP.out.2.1 H1.out
          refine ⟨by rw [I1.out]; rfl, some t', n + 1, s :: L', y1, y2, turn_cons ?_ (fun k hk => (HP.out.1.2 k hk).imp id (fun h => Nat.le_trans hsz4 h)) y3, by rw [I2.out]; exact HREST.out (some t') ⟨d, P3.out, P2.out, Nat.le_trans HNE.out P4.out⟩⟩
          exact (((M4.out.mono (fun _ _ x => x.elim)).then (S := (· ∈ s :: Lt)) HP.out.1.1 (fun k hk h => List.mem_cons_of_mem _ h))).then hm9 (fun k hk e => by rw [e]; exact List.mem_cons_self)
        · subst hq
          have P1 := Lib.hid p1; have P2 := Lib.hid p2; have P3 := Lib.hid p3; have P4 := Lib.hid p4; have P5 := Lib.hid p5; have P6 := Lib.hid p6; have P7 := Lib.hid p7; have P8 := Lib.hid p8
          have u0 : W8.cell? ⟨U, 0, none⟩ = some (.string up.1) := cell_of HU8.out 0 rfl
          have u1 : W8.cell? ⟨U, 1, none⟩ = some (.string up.2) := cell_of HU8.out 1 rfl
          have i2a : ∀ o, (W8.alloc o).cell? ⟨s, 2, none⟩ = some (.pointer (some ⟨b, 0, none⟩)) := fun o => ((Mod.refl NoB W8).alloc o).cellS i2
          have u0a : ∀ o, (W8.alloc o).cell? ⟨U, 0, none⟩ = some (.string up.1) := fun o => ((Mod.refl NoB W8).alloc o).cellS u0
          have u1a : ∀ o, (W8.alloc o).cell? ⟨U, 1, none⟩ = some (.string up.2) := fun o => ((Mod.refl NoB W8).alloc o).cellS u1
          clear p1 p2 p3 p4 p5 p6 p7 p8
          have i2b : ∀ o1 o2 o3, (((W8.alloc o1).alloc o2).alloc o3).cell? ⟨s, 2, none⟩ = some (.pointer (some ⟨b, 0, none⟩)) := fun o1 o2 o3 => ((((Mod.refl NoB W8).alloc o1).alloc o2).alloc o3).cellS i2
          have if2b : ∀ o1 o2 o3, (((W8.alloc o1).alloc o2).alloc o3).frozen? ⟨s, 2, none⟩ = false := fun o1 o2 o3 => (((((Mod.refl NoB W8).alloc o1).alloc o2).alloc o3).frozen (p := ⟨s, 2, none⟩) (cell_lt' i2) (fun x => x)).trans if2
          go_upto_region 20 with (fail)
          go_cut [] (fun wx => CutN W8 s most n up t1 t2 L1 L2 wx)
          case first =>
            go_region_law (fail)
            all_goals
              go_wp2_with fail
              go_meet
              have hL1 : s ∉ L1 := fun e => H1.out (P3.out.mem_iff.2 (List.mem_append_left _ e))
              have hL2 : s ∉ L2 := fun e => H1.out (P3.out.mem_iff.2 (List.mem_append_right _ e))
              refine CutN.drew ?_
              first
                | exact cutN_of (gi := W8.heap.size) (gc := W8.heap.size + 1) HS8.out P1.out P2.out hL1 hL2 ((((Mod.refl _ _).alloc _).alloc _).alloc _) (three_new _ _ _ _ _ _ _).1 (three_new _ _ _ _ _ _ _).2.1 (three_new _ _ _ _ _ _ _).2.2 (by omega) (by omega) (by omega) (by omega) (by omega) (by omega)
                | exact cutN_of (gi := W8.heap.size + 1) (gc := W8.heap.size) HS8.out P1.out P2.out hL1 hL2 ((((Mod.refl _ _).alloc _).alloc _).alloc _) (three_new _ _ _ _ _ _ _).2.1 (three_new _ _ _ _ _ _ _).1 (three_new _ _ _ _ _ _ _).2.2 (by omega) (by omega) (by omega) (by omega) (by omega) (by omega)
          case rest =>
            obtain ⟨g, gi, gc, z1, z2, z3, z4, z5, z6, z7, z8, z9⟩ := hcut
            obtain ⟨W9, rfl⟩ : ∃ W9 : World, W9 = wc := ⟨_, rfl⟩
            have j1 : W9.cell? ⟨s, 1, none⟩ = some (.int .i64 n) := cell_of z1 1 rfl
            have jf1 := frozen_of z1 1
            have Z1 := Lib.hid z1; have Z2 := Lib.hid z2; have Z9 := Lib.hid z9
            clear z1 z2 z9
            go_wp2_with fail
            go_ret
            have hm9 : Mod (· = s) W9 (W9.setCell ⟨s, 1, none⟩ (.int .i64 ((n : Int) + 1))) := Mod.setCell (S := (· = s)) (Mod.refl _ _) (by intro _; rfl) _
            have hs9 : (W9.setCell ⟨s, 1, none⟩ (.int .i64 ((n : Int) + 1))).heap[s]? = some (.cells #[.int .i64 most, .int .i64 ((n + 1 : Nat) : Int), .pointer (some ⟨g, 0, none⟩)] 192 (0, 0)) := by
              have := heap_set Z1.out 1 (.int .i64 ((n : Int) + 1))
              simpa using this
            have hlX := HP.out.lts
            have hX12 : ∀ k ∈ L1 ++ L2, k ∈ LX := fun k hk => P3.out.mem_iff.2 hk
            have hnX : (L1 ++ L2).Nodup := P3.out.nodup_iff.1 HP.out.2.1
            have hnn : (g :: gi :: gc :: (L1 ++ L2)).Nodup := by
              have q1 : ∀ k, W8.heap.size ≤ k → k ∉ L1 ++ L2 := fun k hk e => by have := hlX k (hX12 k e); omega
              have := q1 g z3; have := q1 gi z4; have := q1 gc z5
              simp only [List.nodup_cons, List.mem_cons, not_or]
              exact ⟨⟨z6, z7, by assumption⟩, ⟨z8, by assumption⟩, by assumption, hnX⟩
            have hsX : s ∉ g :: gi :: gc :: (L1 ++ L2) := by
              simp only [List.mem_cons, not_or]
              exact ⟨by omega, by omega, by omega, fun e => H1.out (hX12 s e)⟩
            obtain ⟨L', y1, y2, y3⟩ := shelf_of hs9 (Z2.out.mod hm9 (fun k hk e => hsX (e ▸ hk))) hnn hsX
            have hs48 := HP.out.1.1.size
            have hits : (Tree.mk [up] [t1, t2]).its = insS (k, v) t.its := by
              rw [← P4.out]
              exact its_two up t1 t2
            have hok : okT (d + 1) (Tree.mk [up] [t1, t2]) := by
              unfold okT
              refine ⟨rfl, by simp, fun x hx => ?_⟩
              simp only [List.mem_cons, List.not_mem_nil, or_false] at hx
              rcases hx with rfl | rfl
              · exact ⟨P5.out, P7.out⟩
              · exact ⟨P6.out, P8.out⟩
            have hsh := HREST.out (some (.mk [up] [t1, t2])) ⟨d + 1, hok, hits, Nat.le_refl _⟩
            refine ⟨by rw [I1.out]; rfl, some (.mk [up] [t1, t2]), n + 1, s :: L', y1, y2, turn_cons ?_ (fun k hk => ?_) y3, by rw [I2.out]; exact hsh⟩
            · exact ((((M4.out.mono (fun _ _ x => x.elim)).then (S := (· ∈ s :: Lt)) HP.out.1.1 (fun k hk h => List.mem_cons_of_mem _ h))).then Z9.out (fun k hk e => by rw [e]; exact List.mem_cons_self)).then hm9 (fun k hk e => by rw [e]; exact List.mem_cons_self)
            · simp only [List.mem_cons] at hk
              rcases hk with rfl | rfl | rfl | hk
              · right; omega
              · right; omega
              · right; omega
              · exact (HP.out.1.2 k (hX12 k hk)).imp id (fun h => Nat.le_trans hsz4 h)
  · have HG := Lib.hid hg
    have k0 := hm.cellS r1
    have k1 := hm.cellS r4
    have kf : w3.frozen? ⟨g, i * 2 + 1, none⟩ = false := (hm.frozen (p := ⟨g, i * 2 + 1, none⟩) (cell_lt' r4) (fun x => x)).trans r6
    have R11 := Lib.hid r11
    have HM := Lib.hid hm
    have hi9 : (i : Int) < (n2 : Int) := by omega
    have hgx : g ≠ xb := r9
    have R7 := Lib.hid r7
    clear hg hm r1 r4 r5 r6 r7 r8 r10 r11 d0 d1 d2
    go_wp2_with fail
    go_ret
    have hg2 : (getS k t.its).isSome = true := by rw [HG.out]; rfl
    obtain ⟨t', q1, q2, q3, q4⟩ := R11.out w3 v HM.out
    have hmm : Mod NoB w w3 := HM2.out.trans HM.out
    have hgs : s ≠ g := fun e => HSL.out (e ▸ R7.out)
    have hs' : (w3.setCell ⟨g, i * 2 + 1, none⟩ (.string v)).heap[s]? = some (.cells #[.int .i64 most, .int .i64 n, .pointer (some ⟨b, 0, none⟩)] 192 (0, 0)) := by
      rw [heap_set_other hgs]
      exact heap_keep HS.out (Mod.refl NoB _) hmm (fun x => x) (fun x => x)
    obtain ⟨L', p1, p2, p3⟩ := shelf_of hs' q1 HND.out HSL.out
    refine ⟨?_, some t', n, s :: L', p1, p2, turn_cons ((hmm.mono (fun _ _ x => x.elim)).setCell (fun _ => List.mem_cons_of_mem _ R7.out) _) (fun k hk => .inl hk) p3, ?_⟩
    · unfold putErr
      rw [if_neg HKEY.out, if_neg HVV.out, if_pos hg2]
      rfl
    · unfold putIts
      rw [if_neg HKEY.out, if_neg HVV.out, if_pos hg2]
      exact ⟨by rw [setS_length]; exact HN.out, rising_setS HR.out, setS_small HSM.out, d, q2, q4, by rw [q3]; exact HNE.out⟩
end Go.Proofs.YtpcmbnbdppembaaGreatDoor

/- (*shelf.Shelf).Put: of every shelf, whatever the key and the value. -/
namespace Go.Proofs.YtpcmbnbdppembaaGreatDoor
set_option linter.unusedSimpArgs false
set_option linter.unusedVariables false
open Go.RowKit Go.Shelf
attribute [local go_sem ↓] Go.wp_at_zero Go.wp_at_succ

set_option maxRecDepth 100000 in
set_option maxHeartbeats 8000000 in
theorem sput_none_full {w : World} {s : Nat} {most : Int} {L : List Nat} (h : ShelfAt w s most none 0 L) (k v : ByteArray) (hk1 : 1 ≤ k.size) (hk2 : k.size ≤ 16) (hv : v.size ≤ 16) (hm : most ≤ 0) :
    Calls Tryz.prog 141 #[.pointer (some ⟨s, 0, none⟩), .string k, .string v] w fun e w' => e = .returned (.int .i64 5) ∧ Mod NoB w w' := by
  have HS := Lib.hid h
  unfold ShelfAt at h
  obtain ⟨h1, rfl⟩ := h
  have hlt : s < w.heap.size := (Array.getElem?_eq_some_iff.1 h1).1
  have c0 : w.cell? ⟨s, 0, none⟩ = some (.int .i64 most) := cell_of h1 0 rfl
  have c1 : w.cell? ⟨s, 1, none⟩ = some (.int .i64 0) := cell_of h1 1 rfl
  have c2 : w.cell? ⟨s, 2, none⟩ = some (.pointer none) := cell_of h1 2 rfl
  clear h1
  go_enter Tryz.func141, Tryz.ntmps141
  go_wp2_with fail
  refine (right_ok k _ hk1 hk2).mono ?_
  rintro e w1 ⟨rfl, hww⟩
  rw [hww]
  clear hww
  go_wp2_with fail
  refine (value_ok v _ hv).mono ?_
  rintro e w1 ⟨rfl, hww⟩
  rw [hww]
  clear hww
  go_wp2_with fail
  refine (clone_any v _ (by omega)).mono ?_
  rintro e w2 ⟨rfl, hm2⟩
  have d0 := hm2.cellS c0
  have d1 := hm2.cellS c1
  have d2 := hm2.cellS c2
  have HM2 := Lib.hid hm2
  clear hm2
  go_wp2_with fail
  refine (find_none (HS.out.mod HM2.out (fun _ _ x => x)) k).mono ?_
  rintro e w3 ⟨rfl, rfl⟩
  go_wp2_with fail
  go_quiet (fail)
  go_wp2_with fail
  go_ret
  exact ⟨rfl, HM2.out.drewN nq⟩

theorem ShelfAt.none_n {w : World} {s n : Nat} {most : Int} {L : List Nat} (h : ShelfAt w s most none n L) (ho : ShOK none [] n) : n = 0 := ho.1

theorem sput_any {w : World} {s : Nat} {most : Int} {tr : Option Tree} {n : Nat} {L : List Nat} {xs : List Itm} (h : ShelfAt w s most tr n L) (hn : L.Nodup) (ho : ShOK tr xs n) (k v : ByteArray) (hk : k.size ≤ 1000000) (hv : v.size ≤ 1000000) (hmost : most ≤ 1000000) :
    Calls Tryz.prog 141 #[.pointer (some ⟨s, 0, none⟩), .string k, .string v] w (SPutE w s most L (putErr most k v xs) (putIts most k v xs)) := by
  by_cases hb : (1 ≤ k.size ∧ k.size ≤ 16) ∧ v.size ≤ 16
  case neg => exact sput_bad h hn ho k v hk hv hb
  obtain ⟨⟨k1, k2⟩, v1⟩ := hb
  cases tr with
  | none =>
    have hx : xs = [] := ho.2.2.2
    subst hx
    have h0 : n = 0 := ho.1
    subst h0
    have hL : L = [s] := by unfold ShelfAt at h; exact h.2
    have hkk : ¬ ¬ (1 ≤ k.size ∧ k.size ≤ 16) := fun e => e ⟨k1, k2⟩
    have hvv : ¬ ¬ v.size ≤ 16 := fun e => e v1
    by_cases hm : 0 < most
    · refine (sput_none h k v k1 k2 v1 hm).mono ?_
      rintro e w' ⟨rfl, L', q1, q2, q3, q4⟩
      have e1 : putErr most k v [] = 0 := by
        unfold putErr
        rw [if_neg hkk, if_neg hvv, if_neg (by simp [getS, SMap.get]), if_neg (by simp; omega)]
      have e2 : putIts most k v [] = [(k, v)] := by
        unfold putIts
        rw [if_neg hkk, if_neg hvv, if_neg (by simp [getS, SMap.get]), if_neg (by simp; omega)]
        rfl
      rw [e1, e2]
      refine ⟨rfl, _, 1, L', q1, q2, ⟨?_, fun g hg => ?_⟩, rfl, ?_, ?_, 0, ?_, ?_, Nat.le_refl _⟩
      · rw [hL]; exact q3.mono (fun i _ hi => by simp [hi])
      · rw [hL]; exact (q4 g hg).imp (fun e => by simp [e]) id
      · exact rising_insS (l := []) Rising.nil
      · intro x hx
        simp only [List.mem_cons, List.not_mem_nil, or_false] at hx
        rw [hx]; exact k2
      · unfold okT; exact ⟨rfl, by simp⟩
      · simp [Tree.its, itsIn]
    · refine (sput_none_full h k v k1 k2 v1 (by omega)).mono ?_
      rintro e w' ⟨rfl, q1⟩
      have e1 : putErr most k v [] = 5 := by
        unfold putErr
        rw [if_neg hkk, if_neg hvv, if_neg (by simp [getS, SMap.get]), if_pos (by simp; omega)]
      have e2 : putIts most k v [] = [] := by
        unfold putIts
        rw [if_neg hkk, if_neg hvv, if_neg (by simp [getS, SMap.get]), if_pos (by simp; omega)]
      rw [e1, e2]
      exact ⟨rfl, none, 0, L, h.mod q1 (fun _ _ x => x), hn, Turn.of_no q1, ho⟩
  | some t =>
    obtain ⟨o1, o2, o3, d, q1, q2, q3⟩ := ho
    subst q2
    unfold ShelfAt at h
    obtain ⟨b, Lt, h1, h2, rfl⟩ := h
    exact sput_tree h1 (treeP_at h2) hn q1 o2 o3 o1 q3 k v k1 k2 v1 hmost
end Go.Proofs.YtpcmbnbdppembaaGreatDoor
