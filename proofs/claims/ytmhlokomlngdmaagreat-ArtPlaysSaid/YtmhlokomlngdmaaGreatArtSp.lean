/- What a Put of a trie makes of its nodes: how many children, how many nodes, how long the paths; no program in sight. What a Delete of a trie makes of its nodes; no program in sight. A trie's leaf: a new child for what is left of a key. A trie's split: a node is parted within its prefix. -/
import Derived.Test.YtmhlokomlngdmaaGreatArtN
import Derived.Test.YtmhlokomlngdmaaGreatArtSf
import Derived.Test.YtmhlokomlngdmaaGreatArtNl
import Derived.Test.YtmhlokomlngdmaaGreatArtDr
namespace Go.Proofs.YtmhlokomlngdmaaGreat
section
variable {F : AF} {r : Hd} {C : Cont} {x : Hd × AN}
theorem nrm_set (hn : ANrm F r) {m : AN} (hx : x ∈ F) (hm : m.val.isSome = true ∨ 2 ≤ m.kids.length ∨ x.1 = r) : ANrm (aset F x.1 m) r := fun z hz => by
  rcases (mem_aset ⟨x.2, hx⟩).1 hz with rfl | ⟨_, hz⟩
  · rcases hm with h | h | h
    · exact .inr (.inl h)
    · exact .inr (.inr h)
    · exact .inl h
  · exact hn z hz
theorem nrm_app (hn : ANrm F r) {g : Hd} {m : AN} (hm : m.val.isSome = true ∨ 2 ≤ m.kids.length) : ANrm (F ++ [(g, m)]) r := fun z hz => by
  rcases List.mem_append.1 hz with hz | hz
  · exact hn z hz
  · simp at hz; subst hz; exact .inr hm
theorem lim_set {N : Nat} (hl : ∀ x, x ∈ F → x.2.path.length ≤ N) {m : AN} (hx : x ∈ F) (hm : m.path.length ≤ N) : ∀ z, z ∈ aset F x.1 m → z.2.path.length ≤ N := fun z hz => by
  rcases (mem_aset ⟨x.2, hx⟩).1 hz with rfl | ⟨_, hz⟩
  · exact hm
  · exact hl z hz
theorem lim_app {N : Nat} (hl : ∀ x, x ∈ F → x.2.path.length ≤ N) {g : Hd} {m : AN} (hm : m.path.length ≤ N) : ∀ z, z ∈ F ++ [(g, m)] → z.2.path.length ≤ N := fun z hz => by
  rcases List.mem_append.1 hz with hz | hz
  · exact hl z hz
  · simp at hz; subst hz; exact hm
theorem nb_set {m : AN} (hn : (F.map (·.2.nb)).Nodup) (hf : (F.map (·.1)).Nodup) (hx : x ∈ F) (hm : m.nb = x.2.nb) : ((aset F x.1 m).map (·.2.nb)).Nodup := by
  refine nodup_iff_inj (nodup_of_map (f := (·.1)) (by rw [aset_fst]; exact hf)) fun y z hy hz he => ?_
  rcases (mem_aset ⟨x.2, hx⟩).1 hy with rfl | ⟨y1, y2⟩ <;> rcases (mem_aset ⟨x.2, hx⟩).1 hz with rfl | ⟨z1, z2⟩
  · rfl
  · exact absurd (congrArg (·.1) (nodup_inj hn z2 hx (he.symm.trans hm))) z1
  · exact absurd (congrArg (·.1) (nodup_inj hn y2 hx (he.trans hm))) y1
  · exact nodup_inj hn y2 z2 he
theorem nb_app {g : Hd} {m : AN} (hn : (F.map (·.2.nb)).Nodup) (hm : ∀ z, z ∈ F → z.2.nb ≠ m.nb) : ((F ++ [(g, m)]).map (·.2.nb)).Nodup := by
  rw [List.map_append, List.nodup_append]
  refine ⟨hn, by simp, fun a ha b hb hh => ?_⟩
  obtain ⟨z, hz, rfl⟩ := List.mem_map.1 ha
  simp at hb
  exact hm z hz (hh.trans hb)
theorem kput_two {b b2 : UInt8} {g g2 : Hd} (h : b2 ≠ b) : (kput [(b, g)] b2 g2).length = 2 := by
  have := kput_len (L := [(b, g)]) (List.pairwise_singleton _ _) b2 g2
  rw [this]
  have : kget [(b, g)] b2 = none := kget_none_iff.2 fun y hy => by simp at hy; subst hy; exact fun e => h e.symm
  rw [this]; rfl
theorem kget_one {b b2 : UInt8} {g : Hd} (h : b2 ≠ b) : kget [(b, g)] b2 = none := kget_none_iff.2 fun y hy => by simp at hy; subst hy; exact fun e => h e.symm
/-- What a Put may make of a tree: m nodes more. -/
structure PutF (F : AF) (r : Hd) (C : Cont) (k v : Str) (m : Nat) (F' : AF) : Prop where
  ok : AOK F' r
  ct : ACt F' (cput C k v)
  nm : ANrm F' r
  len : F'.length = F.length + m
  lim : (∀ x, x ∈ F → x.2.path.length ≤ 600) → k.size ≤ 600 → ∀ x, x ∈ F' → x.2.path.length ≤ 600
theorem put_val (h : AOK F r) (hc : ACt F C) (hn : ANrm F r) (hx : x ∈ F) {k v : Str} (hk : bl k = x.2.path) : PutF F r C k v 0 (aset F x.1 { x.2 with val := some v }) :=
  ⟨h.setVal hx _, hc.setVal h hx hk, nrm_set hn hx (.inl rfl), aset_len _ _ _, fun hl _ => lim_set hl hx (hl x hx)⟩
theorem put_leaf (h : AOK F r) (hc : ACt F C) (hn : ANrm F r) (hx : x ∈ F) {k v : Str} {b : UInt8} {tl : Byt} (hg : kget x.2.kids b = none) (hk : bl k = x.2.path ++ b :: tl) {g : Hd} (hgf : ∀ z, z ∈ F → z.1 ≠ g) (nb : Nat) :
    PutF F r C k v 1 (aset F x.1 { x.2 with kids := kput x.2.kids b g } ++ [(g, ⟨x.2.path ++ b :: tl, bs tl, some v, [], nb⟩)]) := by
  have h1 := h.leaf hx hg hgf (bs tl) (some v) nb x.2.nb
  have h2 := hc.leaf hx h hg (g := g) (pre := bs tl) (k := k) (v := v) (nb := nb) (nb' := x.2.nb) (by rw [bl_bs]; exact hk)
  rw [bl_bs] at h1 h2
  have hkl := kput_len (h.srt x hx) b g
  rw [hg] at hkl
  have hkl : (kput x.2.kids b g).length = x.2.kids.length + 1 := hkl
  refine ⟨h1, h2, nrm_app (nrm_set hn hx ?_) (.inl rfl), by rw [List.length_append, aset_len]; rfl, fun hl hz => lim_app (lim_set hl hx (m := { x.2 with kids := kput x.2.kids b g }) (hl x hx)) ?_⟩
  · rcases hn x hx with h3 | h3 | h3
    · exact .inr (.inr h3)
    · exact .inl h3
    · exact .inr (.inl (by show 2 ≤ (kput x.2.kids b g).length; omega))
  · show (x.2.path ++ b :: tl).length ≤ 600
    rw [← hk]
    have : (bl k).length = k.size := Array.length_toList
    omega
theorem put_split (h : AOK F r) (hc : ACt F C) (hn : ANrm F r) (hx : x ∈ F) (hr : x.1 ≠ r) {s q t : Byt} {b : UInt8} (hp : x.2.path = s ++ bl x.2.pre) (hpre : bl x.2.pre = q ++ b :: t) {k v : Str} (hk : bl k = s ++ q) {g : Hd} (hgf : ∀ z, z ∈ F → z.1 ≠ g) (nb : Nat) :
    PutF F r C k v 1 (aset F x.1 ⟨s ++ q, bs q, some v, [(b, g)], nb⟩ ++ [(g, { x.2 with pre := bs t })]) := by
  have h1 := h.split hx hr hp hpre (bl_bs q) (bl_bs t) hgf (some v) nb
  have h2 := (hc.split h hx hr hp hpre (g := g) (nb := nb) (qs := bs q) (ts := bs t)).2 k v hk
  have hlen : (s ++ q).length ≤ x.2.path.length := by rw [hp, hpre]; simp
  refine ⟨h1, h2, nrm_app (nrm_set hn hx (.inl rfl)) ((hn x hx).resolve_left hr), by rw [List.length_append, aset_len]; rfl, fun hl hz => lim_app (lim_set hl hx (Nat.le_trans hlen (hl x hx))) (hl x hx)⟩
theorem put_split2 (h : AOK F r) (hc : ACt F C) (hn : ANrm F r) (hx : x ∈ F) (hr : x.1 ≠ r) {s q t : Byt} {b b2 : UInt8} {tl : Byt} (hp : x.2.path = s ++ bl x.2.pre) (hpre : bl x.2.pre = q ++ b :: t) {k v : Str} (hk : bl k = s ++ q ++ b2 :: tl) (hb : b2 ≠ b) {g g2 : Hd} (hgf : ∀ z, z ∈ F → z.1 ≠ g) (nb nb2 : Nat)
    (hgf2 : ∀ z, z ∈ aset F x.1 ⟨s ++ q, bs q, none, [(b, g)], nb⟩ ++ [(g, { x.2 with pre := bs t })] → z.1 ≠ g2) :
    PutF F r C k v 2 (aset (aset F x.1 ⟨s ++ q, bs q, none, [(b, g)], nb⟩ ++ [(g, { x.2 with pre := bs t })]) x.1 ⟨s ++ q, bs q, none, kput [(b, g)] b2 g2, nb⟩ ++ [(g2, ⟨s ++ q ++ b2 :: tl, bs tl, some v, [], nb2⟩)]) := by
  have h1 := h.split hx hr hp hpre (bl_bs q) (bl_bs t) hgf none nb
  have h2 := (hc.split h hx hr hp hpre (g := g) (nb := nb) (qs := bs q) (ts := bs t)).1
  have hx2 : (x.1, (⟨s ++ q, bs q, none, [(b, g)], nb⟩ : AN)) ∈ aset F x.1 ⟨s ++ q, bs q, none, [(b, g)], nb⟩ ++ [(g, { x.2 with pre := bs t })] := List.mem_append_left _ ((mem_aset ⟨x.2, hx⟩).2 (.inl rfl))
  have h3 := h1.leaf hx2 (kget_one (g := g) hb) hgf2 (bs tl) (some v) nb2 nb
  have h4 := h2.leaf hx2 h1 (kget_one (g := g) hb) (g := g2) (pre := bs tl) (k := k) (v := v) (nb := nb2) (nb' := nb) (by rw [bl_bs]; exact hk)
  rw [bl_bs] at h3 h4
  have hlen : (s ++ q).length ≤ x.2.path.length := by rw [hp, hpre]; simp
  refine ⟨h3, h4, ?_, ?_, fun hl hz => ?_⟩
  · have h5 : ANrm (F ++ [(g, { x.2 with pre := bs t })]) r := nrm_app hn ((hn x hx).resolve_left hr)
    refine nrm_app (fun z hz => ?_) (.inl rfl)
    rcases (mem_aset ⟨_, hx2⟩).1 hz with rfl | ⟨z1, z2⟩
    · exact .inr (.inr (by show 2 ≤ (kput [(b, g)] b2 g2).length; rw [kput_two hb]; exact Nat.le_refl _))
    · rcases List.mem_append.1 z2 with z2 | z2
      · rcases (mem_aset ⟨x.2, hx⟩).1 z2 with rfl | ⟨_, z2⟩
        · exact absurd rfl z1
        · exact hn z z2
      · exact h5 z (List.mem_append_right _ z2)
  · rw [List.length_append, aset_len, List.length_append, aset_len]; rfl
  · refine lim_app (lim_set (lim_app (lim_set hl hx (m := ⟨s ++ q, bs q, none, [(b, g)], nb⟩) (Nat.le_trans hlen (hl x hx))) (m := { x.2 with pre := bs t }) (hl x hx)) hx2 (m := ⟨s ++ q, bs q, none, kput [(b, g)] b2 g2, nb⟩) (Nat.le_trans hlen (hl x hx))) ?_
    show (s ++ q ++ b2 :: tl).length ≤ 600
    rw [← hk]
    have : (bl k).length = k.size := Array.length_toList
    omega
end
end Go.Proofs.YtmhlokomlngdmaaGreat
namespace Go.Proofs.YtmhlokomlngdmaaGreat
/-- All nodes but one are as they must be. -/
def ANbut (F : AF) (r h : Hd) : Prop := ∀ x, x ∈ F → x.1 ≠ h → x.1 = r ∨ x.2.val.isSome = true ∨ 2 ≤ x.2.kids.length
section
variable {F F2 : AF} {r : Hd} {C C2 : Cont} {x : Hd × AN}
structure DelF (F : AF) (r : Hd) (C : Cont) (F' : AF) : Prop where
  ok : AOK F' r
  ct : ACt F' C
  nm : ANrm F' r
  lim : (∀ x, x ∈ F → x.2.path.length ≤ 600) → ∀ x, x ∈ F' → x.2.path.length ≤ 600
  nb : (F.map (·.2.nb)).Nodup → (F'.map (·.2.nb)).Nodup
theorem nb_adel {g : Hd} (hn : (F.map (·.2.nb)).Nodup) : ((adel F g).map (·.2.nb)).Nodup := hn.sublist (List.Sublist.map _ List.filter_sublist)
theorem lim_adel {N : Nat} {g : Hd} (hl : ∀ x, x ∈ F → x.2.path.length ≤ N) : ∀ z, z ∈ adel F g → z.2.path.length ≤ N := fun z hz => hl z (mem_adel.1 hz).2
/-- Nothing is joined. -/
theorem del_stay (h : AOK F r) (hc : ACt F C) (hb : ANbut F r x.1) (hx : x ∈ F) (hno : x.1 = r ∨ x.2.val.isSome = true ∨ x.2.kids.length ≠ 1) (hk : x.1 = r ∨ x.2.val.isSome = true ∨ 1 ≤ x.2.kids.length) : DelF F r C F :=
  ⟨h, hc, fun z hz => by
    by_cases he : z.1 = x.1
    · have := h.un hz hx he
      subst this
      rcases hno with h1 | h1 | h1
      · exact .inl h1
      · exact .inr (.inl h1)
      · rcases hk with h2 | h2 | h2
        · exact .inl h2
        · exact .inr (.inl h2)
        · exact .inr (.inr (by omega))
    · exact hb z hz he, fun h => h, fun h => h⟩
/-- A node takes its only child in. -/
theorem del_join (h : AOK F r) (hc : ACt F C) (hb : ANbut F r x.1) (hx : x ∈ F) (hr : x.1 ≠ r) (hv : x.2.val = none) {b : UInt8} {g : Hd} {m : AN} (hk : x.2.kids = [(b, g)]) (hm : (g, m) ∈ F) :
    DelF F r C (adel (aset F x.1 { m with pre := x.2.pre ++ bs [b] ++ m.pre }) g) := by
  have hps : bl (x.2.pre ++ bs [b] ++ m.pre) = bl x.2.pre ++ b :: bl m.pre := by rw [bl_app, bl_app, List.append_assoc]; rfl
  obtain ⟨m', hm', hmp⟩ := h.dn x hx (b, g) (by rw [hk]; simp)
  have he := h.un hm hm' rfl
  injection he with _ he
  subst he
  have hgx : g ≠ x.1 := fun e => by
    have h1 := h.un hm hx e
    have h2 := congrArg (fun z : Hd × AN => z.2.path.length) h1
    simp only at h2
    rw [hmp] at h2
    simp at h2
  have hgr : g ≠ r := fun e => by
    have h1 := h.root_pre hm e
    simp only at h1
    rw [hmp] at h1
    simp at h1
  refine ⟨h.join hx hr hk hm hps, hc.join h hx hv hk hm, fun z hz => ?_, fun hl => lim_adel (lim_set hl hx (hl _ hm)), fun hn => ?_⟩
  · obtain ⟨z1, z2⟩ := mem_adel.1 hz
    rcases (mem_aset ⟨x.2, hx⟩).1 z2 with rfl | ⟨z3, z4⟩
    · rcases hb _ hm hgx with h1 | h1
      · exact absurd h1 hgr
      · exact .inr h1
    · exact hb z z4 z3
  · have hnd : ((adel (aset F x.1 { m with pre := x.2.pre ++ bs [b] ++ m.pre }) g).map (·.1)).Nodup := by
      refine List.Nodup.sublist (List.Sublist.map _ List.filter_sublist) ?_
      rw [aset_fst]; exact h.nd
    refine nodup_iff_inj (nodup_of_map hnd) fun y z hy hz he => ?_
    obtain ⟨y1, y2⟩ := mem_adel.1 hy
    obtain ⟨z1, z2⟩ := mem_adel.1 hz
    rcases (mem_aset ⟨x.2, hx⟩).1 y2 with rfl | ⟨y3, y4⟩ <;> rcases (mem_aset ⟨x.2, hx⟩).1 z2 with rfl | ⟨z3, z4⟩
    · rfl
    · exact absurd (congrArg (·.1) (nodup_inj hn z4 hm he.symm)) z1
    · exact absurd (congrArg (·.1) (nodup_inj hn y4 hm he)) y1
    · exact nodup_inj hn y4 z4 he
/-- A value goes. -/
theorem del_val (h : AOK F r) (hc : ACt F C) (hn : ANrm F r) (hx : x ∈ F) {k : Str} (hk : bl k = x.2.path) :
    AOK (aset F x.1 { x.2 with val := none }) r ∧ ACt (aset F x.1 { x.2 with val := none }) (cdel C k) ∧ ANbut (aset F x.1 { x.2 with val := none }) r x.1 :=
  ⟨h.setVal hx none, hc.delVal h hx hk, fun z hz he => by
    rcases (mem_aset ⟨x.2, hx⟩).1 hz with rfl | ⟨_, hz⟩
    · exact absurd rfl he
    · exact hn z hz⟩
/-- A leaf without a value goes. -/
theorem del_leaf (h : AOK F r) (hc : ACt F C) (hb : ANbut F r x.1) (hx : x ∈ F) (hk : x.2.kids = []) (hv : x.2.val = none) {p : Hd × AN} (hp : p ∈ F) {b : UInt8} (hbx : (b, x.1) ∈ p.2.kids) :
    AOK (adel (aset F p.1 { p.2 with kids := kdel p.2.kids b }) x.1) r ∧ ACt (adel (aset F p.1 { p.2 with kids := kdel p.2.kids b }) x.1) C ∧ ANbut (adel (aset F p.1 { p.2 with kids := kdel p.2.kids b }) x.1) r p.1 ∧
      (p.1, { p.2 with kids := kdel p.2.kids b }) ∈ adel (aset F p.1 { p.2 with kids := kdel p.2.kids b }) x.1 ∧ (p.1 = r ∨ p.2.val.isSome = true ∨ 1 ≤ (kdel p.2.kids b).length) := by
  have hpx : p.1 ≠ x.1 := fun e => by
    have := h.un hp hx e
    subst this
    rw [hk] at hbx
    cases hbx
  have hl := kdel_len (h.srt p hp) b
  have hg : kget p.2.kids b = some x.1 := (kget_iff (h.srt p hp)).2 hbx
  rw [hg] at hl
  have hl : (kdel p.2.kids b).length = p.2.kids.length - 1 := hl
  refine ⟨h.dropLeaf hp hx hbx hk p.2.nb, hc.dropLeaf h hp hx hbx hv p.2.nb, fun z hz he => ?_, mem_adel.2 ⟨hpx, (mem_aset ⟨p.2, hp⟩).2 (.inl rfl)⟩, ?_⟩
  · obtain ⟨z1, z2⟩ := mem_adel.1 hz
    rcases (mem_aset ⟨p.2, hp⟩).1 z2 with rfl | ⟨_, z4⟩
    · exact absurd rfl he
    · exact hb z z4 z1
  · rcases hb p hp hpx with h1 | h1 | h1
    · exact .inl h1
    · exact .inr (.inl h1)
    · exact .inr (.inr (by omega))
end
end Go.Proofs.YtmhlokomlngdmaaGreat
namespace Go.Proofs.YtmhlokomlngdmaaGreat
open Go.RowKit
theorem aset_app {F : AF} {h g : Hd} {n m : AN} (hg : g ≠ h) : aset (F ++ [(g, m)]) h n = aset F h n ++ [(g, m)] := by
  unfold aset
  rw [List.map_append]
  simp [hg]
theorem adel_app {F : AF} {h g : Hd} {m : AN} (hg : g ≠ h) : adel (F ++ [(g, m)]) h = adel F h ++ [(g, m)] := by
  unfold adel
  rw [List.filter_append]
  simp [hg]
section
variable {w0 w w' w1 : World} {T T1 : TS} {C : Cont} {x : Hd × AN}
def LeafEnd (w0 w : World) (T : TS) (x : Hd × AN) (b : UInt8) (tl : Byt) (v : Str) (e : Ending) (w' : World) : Prop :=
  e = .returned (.tuple #[]) ∧ ∃ T' g nb, AM w0 w' T' ∧ TEv w w' T T' ∧ T'.F = aset T.F x.1 { x.2 with kids := kput x.2.kids b g } ++ [(g, ⟨x.2.path ++ b :: tl, bs tl, some v, [], nb⟩)] ∧
    (∀ z, z ∈ T.F → z.1 ≠ g ∧ z.2.nb ≠ nb) ∧ T'.n = T.n + 1 ∧ T'.free.count true + 1 = T.free.count true
/-- The world between: the new node lies in the arena. -/
def LeafMid (w0 w : World) (T : TS) (x : Hd × AN) (b : UInt8) (tl : Byt) (v : Str) (T2 : TS) (g : Hd) (nb : Nat) (wz : World) : Prop :=
  AM w0 wz T2 ∧ TEv w wz T T2 ∧ T2.F = T.F ++ [(g, ⟨x.2.path ++ b :: tl, bs tl, some v, [], nb⟩)] ∧ (∀ z, z ∈ T.F → z.1 ≠ g ∧ z.2.nb ≠ nb) ∧ T2.n = T.n ∧ T2.free.count true + 1 = T.free.count true
theorem LeafMid.below {b : UInt8} {tl : Byt} {v : Str} {T2 : TS} {g : Hd} {nb : Nat} {wz : World} (h : LeafMid w0 w T x b tl v T2 g nb wz) (hb : Below wz.heap.size wz w') : LeafMid w0 w T x b tl v T2 g nb w' :=
  ⟨h.1.below hb, h.2.1.trans (TEv.below h.1 hb), h.2.2⟩
/-- The children are made. -/
def LeafNew (w0 w : World) (T : TS) (T1 : TS) (nb : Nat) (wz : World) : Prop :=
  AM w0 wz T1 ∧ TEv w wz T T1 ∧ T1.F = T.F ∧ T1.K = updK T.K nb [] ∧ T1.n = T.n ∧ T1.free = T.free ∧ T1.d = T.d ∧ ∀ z, z ∈ T.F → z.2.nb ≠ nb
theorem LeafNew.below {T1 : TS} {nb : Nat} {wz : World} (h : LeafNew w0 w T T1 nb wz) (hb : Below wz.heap.size wz w') : LeafNew w0 w T T1 nb w' := ⟨h.1.below hb, h.2.1.trans (TEv.below h.1 hb), h.2.2⟩
theorem new_dw (w : World) (o : Obj) : (w.drew.alloc o).heap[w.heap.size]? = some o := heap_alloc_new w.drew o
theorem TEv.keep {q : Nat} {o : Obj} (h : TEv w w' T T1) (hq : w.heap[q]? = some o) (h0 : T.ρ q = 0) : w'.heap[q]? = some o ∧ T1.ρ q = 0 :=
  ⟨h.ru.heap hq (by rw [h0]; simp; omega), (h.ru.role _ (heap_lt hq)).trans h0⟩
theorem TEv.own {S : List Nat} (h : TEv w w1 T T1) (ha : AM w0 w1 T1) (hu : Upd S w1 w') (hS : ∀ q, q ∈ S → w.heap.size ≤ q) : TEv w w' T T1 := by
  refine ⟨⟨hu.os.trans h.ru.os, hu.tape.trans h.ru.tape, hu.output.trans h.ru.output, Nat.le_trans h.ru.size hu.size, fun k hk hn => ?_, h.ru.role, fun k hk => ha.bw.ro.far k (Nat.le_trans hu.size hk)⟩, h.P, h.i, h.t, h.r, h.a, h.m, h.kd, h.dl, h.dj, h.fl⟩
  rw [hu.block k (Nat.lt_of_lt_of_le hk h.ru.size) (fun hm => by have := hS k hm; omega)]
  exact h.ru.block k hk hn
theorem TEv.cell1 (h : TEv w w' T T1) (ha : AM w0 w' T1) : w'.cell? ⟨T.t, 1, none⟩ = some (.pointer (some ⟨T.d.A.a, 0, none⟩)) := by
  obtain ⟨_, c1, _⟩ := ha.cells
  rw [h.t, h.a] at c1
  exact c1
theorem LeafMid.own {S : List Nat} {b : UInt8} {tl : Byt} {v : Str} {T2 : TS} {g : Hd} {nb : Nat} {wz : World} (h : LeafMid w0 w T x b tl v T2 g nb wz) (hw : w0.heap.size ≤ w.heap.size) (hu : Upd S wz w') (hS : ∀ q, q ∈ S → w.heap.size ≤ q ∧ T2.ρ q = 0) : LeafMid w0 w T x b tl v T2 g nb w' :=
  ⟨h.1.wr hu (fun q hq => ⟨Nat.le_trans hw (hS q hq).1, (hS q hq).2⟩), h.2.1.own h.1 hu (fun q hq => (hS q hq).1), h.2.2⟩
theorem AM.newKids (h : AM w0 w T) (W : World) (hW : Below w.heap.size w W) :
    Calls Tryz.prog 30 #[] W fun e w' => ∃ nb T1, e = .returned (.pointer (some ⟨nb, 0, none⟩)) ∧ LeafNew w0 w T T1 nb w' ∧ TEv W w' T T1 ∧ Below W.heap.size W w' := by
  refine (anNew_any W).mono ?_
  rintro e w' ⟨rfl, hk, hb, hs⟩
  obtain ⟨T1, q1, q2, q3, q4, q5, q6, q7, _, q8⟩ := (h.below hW).knew hb hk (fun q hq => by simp at hq; omega)
  exact ⟨_, T1, rfl, ⟨q1, (TEv.below h hW).trans q2, q3, q4, q5, q6, q7, q8⟩, q2, hb⟩
theorem LeafNew.alloc {T1 : TS} {nb : Nat} {wz : World} (h : LeafNew w0 w T T1 nb wz) (x : Hd × AN) (b : UInt8) (tl : Byt) (v : Str) (hfr : true ∈ T.free) :
    ∃ g, Calls Tryz.prog 29 #[.pointer (some ⟨T.d.A.a, 0, none⟩), .agg #[.string (bs tl), .string v, .bool true, .pointer (some ⟨nb, 0, none⟩)]] wz fun y w' =>
      y = .returned (.tuple #[hV g, .int .i64 0]) ∧ ∃ T2, LeafMid w0 w T x b tl v T2 g nb w' ∧ TEv wz w' T1 T2 := by
  obtain ⟨q1, q2, q3, q4, q5, q6, q7, q8⟩ := h
  obtain ⟨g, g1, g2⟩ := q1.alloc ⟨x.2.path ++ b :: tl, bs tl, some v, [], nb⟩ (by rw [q4]; exact updK_self) (by rw [q6]; exact hfr)
  refine ⟨g, ?_⟩
  rw [q7] at g2
  refine g2.mono ?_
  rintro y w' ⟨rfl, T2, r1, r2, r3, r4, r5, r6⟩
  exact ⟨rfl, T2, ⟨r1, q2.trans r2, by rw [r3, q3], fun z hz => ⟨g1 z (by rw [q3]; exact hz), q8 z hz⟩, r5.trans q5, by rw [r6, q6]⟩, r2⟩
set_option maxRecDepth 100000 in
set_option maxHeartbeats 1000000 in
theorem AM.leaf (h : AM w0 w T) (hx : x ∈ T.F) (hnd : (T.F.map (·.2.nb)).Nodup) (hks : KSort x.2.kids) {key v : Str} {b : UInt8} {tl : Byt} (hbt : bl key = b :: tl) (hfr : true ∈ T.free) (hn : T.n ≤ 100000) :
    Calls Tryz.prog 48 #[.pointer (some ⟨T.t, 0, none⟩), hV x.1, .string key, .string v] w (LeafEnd w0 w T x b tl v) := by
  have hsz := bl_size key
  rw [hbt, List.length_cons] at hsz
  have ga : ∀ W, (Instr.index 9 (.string key) (.int .i64 0)).run Tryz.prog W = .ok (.int .u8 b.toNat) W := fun W => index_at (q := []) hbt rfl W
  obtain ⟨t1, ht1⟩ : ∃ t1, t1 = bs tl := ⟨_, rfl⟩
  have hsl : ∀ W, (Instr.slice 9 (.string key) (some (.int .i64 1)) none none).run Tryz.prog W = .ok (.string t1) W := fun W => by
    rw [run_slice_string_l (t := 9) (s := key) (ht := Tryz.underlying9) W .i64 1 (by omega) (by omega)]
    congr 2
    rw [ht1]
    apply bl_inj
    rw [bl_bs]
    show (key.extract 1 key.size).data.toList = tl
    rw [ByteArray.data_extract, Array.toList_extract]
    show (bl key).extract 1 key.size = tl
    rw [hbt, List.extract_eq_take_drop, ← hsz]
    simp
  obtain ⟨⟨g1, g2⟩, n⟩ := x
  obtain ⟨wb, hwb⟩ : ∃ wb, wb = w.alloc (.cells #[.int .i64 g1, .int .u64 g2] 77) := ⟨_, rfl⟩
  have hB : Below w.heap.size w wb := by rw [hwb]; exact (Below.refl _ _).alloc (Nat.le_refl _) _
  have hbx : wb.heap[w.heap.size]? = some (.cells #[.int .i64 g1, .int .u64 g2] 77) := by rw [hwb]; exact heap_alloc_new _ _
  have hr0 : T.ρ w.heap.size = 0 := h.bw.ro.far _ (Nat.le_refl _)
  have hb := h.below hB
  obtain ⟨_, c1, _, _, _, _, hq⟩ := hb.cells
  have hNew := Lib.hid fun W (hW : Below wb.heap.size wb W) => hb.newKids W hW
  have hlt := Nat.le_refl wb.heap.size
  replace hB := Lib.hid hB
  replace hwb := Lib.hid hwb
  replace hbx := Lib.hid hbx
  replace hb := Lib.hid hb
  replace hr0 := Lib.hid hr0
  replace hbt := Lib.hid hbt
  replace hsz := Lib.hid hsz
  replace ht1 := Lib.hid ht1
  replace hks := Lib.hid hks
  replace hnd := Lib.hid hnd
  replace hx := Lib.hid hx
  replace hfr := Lib.hid hfr
  replace h := Lib.hid h
  clear hlt
  go_enter Tryz.func48, Tryz.ntmps48
  go_upto_region 1 with fail
  rw [← hwb.out]
  go_cut [8, 9] (fun v8 v9 wz => ∃ QB g nb T2, v8 = .pointer (some ⟨QB, 0, none⟩) ∧ wb.heap.size ≤ QB ∧ T2.ρ QB = 0 ∧ wz.heap[QB]? = some (.cells #[.int .i64 g.1, .int .u64 g.2] 77) ∧ LeafMid w0 wb T ((g1, g2), n) b tl v T2 g nb wz)
  case first =>
    have hne := World.new_ne wb _ c1
    have hnt : ¬ T.t = wb.heap.size := fun e => hne e.symm
    go_region_held3 (fun W' => W'.cell? ⟨T.t, 1, none⟩ = some (.pointer (some ⟨T.d.A.a, 0, none⟩))) (first | exact c1 | exact i1 | exact j1 | exact j2 | go_keep) (first
      | (go_at_call 30; refine (hNew.out _ (bel_dwa _)).mono ?_; rintro e w1 ⟨nb, T1, rfl, hN, hev, hb1⟩; have i1 := hev.cell1 hN.1; have qx := Below.heap' hb1 (new_dw wb _); have qr := (hev.ru.role _ (heap_lt (new_dw wb (.cells #[.int .i64 0, .int .u64 0] 77)))).trans (hb.out.bw.ro.far _ (Nat.le_refl _)); replace qx := Lib.hid qx; replace qr := Lib.hid qr; replace hN := Lib.hid hN; replace hev := Lib.hid hev; replace hb1 := Lib.hid hb1)
      | (go_at_call 30; refine (hNew.out _ bel_dw).mono ?_; rintro e w1 ⟨nb, T1, rfl, hN, hev, hb1⟩; have i1 := hev.cell1 hN.1; have hne1 := World.new_ne w1 _ i1; replace hN := Lib.hid hN; replace hev := Lib.hid hev; replace hb1 := Lib.hid hb1)
      | (go_at_call 29; obtain ⟨g, hAl⟩ := hN.out.alloc ((g1, g2), n) b tl v hfr.out; rw [← ht1.out] at hAl; refine hAl.mono ?_; rintro y w2 ⟨rfl, T2, hM, hev2⟩; have i1 := hM.2.1.cell1 hM.1; have q2 := hev2.keep qx.out qr.out; obtain ⟨p0, p1, pq, pf⟩ := cells2 q2.1; replace q2 := Lib.hid q2; replace hM := Lib.hid hM; replace hev2 := Lib.hid hev2; replace hAl := Lib.hid hAl)
      | (go_at_call 29; obtain ⟨g, hAl⟩ := hN.out.alloc ((g1, g2), n) b tl v hfr.out; rw [← ht1.out] at hAl; refine hAl.mono ?_; rintro y w2 ⟨rfl, T2, hM, hev2⟩; have i1 := hM.2.1.cell1 hM.1; have hne2 := World.new_ne w2 _ i1; replace hM := Lib.hid hM; replace hev2 := Lib.hid hev2; replace hAl := Lib.hid hAl)
      | (go_at_call 29; obtain ⟨g, hAl⟩ := (hN.out.below ((Below.refl w1.heap.size w1).alloc (Nat.le_refl _) (.cells #[.int .i64 0, .int .u64 0] 77))).alloc ((g1, g2), n) b tl v hfr.out; rw [← ht1.out] at hAl; refine hAl.mono ?_; rintro y w2 ⟨rfl, T2, hM, hev2⟩; have i1 := hM.2.1.cell1 hM.1; have q2 := hev2.keep (heap_alloc_new w1 _) (hN.out.1.bw.ro.far _ (Nat.le_refl _)); obtain ⟨p0, p1, pq, pf⟩ := cells2 q2.1; replace q2 := Lib.hid q2; replace hM := Lib.hid hM; replace hev2 := Lib.hid hev2; replace hAl := Lib.hid hAl))
    all_goals
      go_wp2_with fail
      go_meet
      first
      | exact ⟨w2.heap.size, g, nb, T2, rfl, hM.out.2.1.ru.size, hM.out.1.bw.ro.far _ (Nat.le_refl _), heap_alloc_new _ _, hM.out.below ((Below.refl _ _).alloc (Nat.le_refl _) _)⟩
      | exact ⟨w1.heap.size, g, nb, T2, rfl, hN.out.2.1.ru.size, q2.out.2, (hd_stored q2.out.1 _ _).1, hM.out.own hb.out.bw.ro.bel.size (hd_stored q2.out.1 _ _).2 (fun q hq => by rw [List.mem_singleton.1 hq]; exact ⟨hN.out.2.1.ru.size, q2.out.2⟩)⟩
      | exact ⟨wb.heap.size, g, nb, T2, rfl, Nat.le_refl _, q2.out.2, (hd_stored q2.out.1 _ _).1, hM.out.own hb.out.bw.ro.bel.size (hd_stored q2.out.1 _ _).2 (fun q hq => by rw [List.mem_singleton.1 hq]; exact ⟨Nat.le_refl _, q2.out.2⟩)⟩
  case rest =>
    obtain ⟨QB, g, nb, T2, rfl, hQ, hQr, hQc, hM⟩ := hcut
    obtain ⟨wd, hwd⟩ : ∃ wd, wd = wc := ⟨_, rfl⟩
    subst hwd
    obtain ⟨hA2, hev2, hF2, hfresh, hn2, hc2⟩ := hM
    have hx2 : ((g1, g2), n) ∈ T2.F := by rw [hF2]; exact List.mem_append_left _ hx.out
    obtain ⟨e, e1, e2, e3, e4, hAt⟩ := hA2.at hx2
    rw [hev2.t] at hAt
    obtain ⟨hbx2, hbr2⟩ := hev2.keep hbx.out hr0.out
    have hun : ∀ z, z ∈ T2.F → z.2.nb = n.nb → z = ((g1, g2), n) := fun z hz he => by
      rw [hF2] at hz
      rcases List.mem_append.1 hz with hz | hz
      · exact nodup_inj hnd.out hz hx.out he
      · simp at hz
        subst hz
        exact absurd he.symm (hfresh _ hx.out).2
    have hrole : T2.ρ e.blk ≠ 5 := by
      have := ((hA2.bw.ars.ar _ _ hA2.hd).th e e1).1
      omega
    obtain ⟨n1, n2, n3, n4, nq, nf⟩ := nx_cells e4
    obtain ⟨b0, b1, bq, bf⟩ := cells2 hbx2
    obtain ⟨p0, p1, pq, pf⟩ := cells2 hQc
    have hSet : ∀ W, Below wd.heap.size wd W → Calls Tryz.prog 68 #[.pointer (some ⟨n.nb, 0, none⟩), .int .u8 b.toNat, hV g] W fun y w' => y = .returned (.bool (!(kget n.kids b).isSome)) ∧
        (∃ T3, AM w0 w' T3 ∧ TEv W w' T2 T3 ∧ T3.F = aset T2.F (g1, g2) { n with kids := Go.Proofs.YtmhlokomlngdmaaGreat.kput n.kids b g } ∧ T3.n = T2.n ∧ T3.free = T2.free) ∧ ∀ a u, W.cell? a = some u → T2.ρ a.block ≠ 5 → w'.cell? a = some u := fun W hW => by
      obtain ⟨B, k1, k2, k3⟩ := (hA2.below hW).kput hx2 hun
      refine (anSet_any k1 b g).mono ?_
      rintro y w' ⟨rfl, hE⟩
      obtain ⟨T3, r1, r2, r3, _, r5, r6⟩ := k3 w' _ hE
      exact ⟨rfl, ⟨T3, r1, r2, r3, r5, r6⟩, fun a u ha h5 => hE.2.cell ha (fun hm => h5 (k2 _ hm))⟩
    have hfin : Hid (∀ w4 w5 T3, AM w0 w4 T3 → TEv wd w4 T2 T3 → T3.F = aset T2.F (g1, g2) { n with kids := Go.Proofs.YtmhlokomlngdmaaGreat.kput n.kids b g } → T3.n = T2.n → T3.free = T2.free → w5 = w4.setCell ⟨T.t, 4, none⟩ (.int .i64 ((T.n : Int) + 1)) → LeafEnd w0 w T ((g1, g2), n) b tl v (.returned (.tuple #[])) w5) := Lib.hid fun w4 w5 T3 a1 a2 a3 a4 a5 a6 => by
      have hblk := a1.blk
      have ht : T3.t = T.t := a2.t.trans hev2.t
      have hset := heap_set_same hblk 4 (.int .i64 ((T.n : Int) + 1))
      have hU : Upd [T3.t] w4 w5 := by rw [a6, ← ht]; exact Upd.setCell (Upd.refl _ _) (by simp) _
      obtain ⟨q1, q2⟩ := a1.size (T.n + 1) hU (by rw [a6, ← ht]; exact hset)
      refine ⟨rfl, { T3 with n := T.n + 1 }, g, nb, q1, ((TEv.below h.out hB.out).trans hev2).trans (a2.trans q2), ?_, hfresh, rfl, ?_⟩
      · show T3.F = _
        rw [a3, hF2, aset_app (fun e => (hfresh _ hx.out).1 e.symm)]
      · show T3.free.count true + 1 = _
        rw [a5]; exact hc2
    have hcel : Hid (∀ w4 T3, AM w0 w4 T3 → TEv wd w4 T2 T3 → T3.n = T2.n → w4.cell? ⟨T.t, 4, none⟩ = some (.int .i64 T.n) ∧ T.t < w4.heap.size ∧ ∀ i, w4.frozen? ⟨T.t, i, none⟩ = false) := Lib.hid fun w4 T3 a1 a2 a3 => by
      have hblk := a1.blk
      rw [a2.t, hev2.t] at hblk
      obtain ⟨_, _, _, _, c4, _, cq⟩ := a1.cells
      rw [a2.t, hev2.t, a3, hn2] at c4
      exact ⟨c4, heap_lt hblk, fun i => frozen_of_heap hblk i⟩
    replace hSet := Lib.hid hSet
    replace hAt := Lib.hid hAt
    generalize e.blk = eb at *
    replace hA2 := Lib.hid hA2
    replace hev2 := Lib.hid hev2
    replace hF2 := Lib.hid hF2
    replace hfresh := Lib.hid hfresh
    replace hn2 := Lib.hid hn2
    replace hc2 := Lib.hid hc2
    replace hun := Lib.hid hun
    replace hx2 := Lib.hid hx2
    clear c1 hNew e4 hbx2 hQc n1 n2 n3
    have hnw : IntKind.i64.wrap ((T.n : Int) + 1) = (T.n : Int) + 1 := IntWalk.i64_in _ (by omega)
    go_upto_region 2 with fail
    go_region_held3 (fun W' => W'.cell? ⟨w.heap.size, 0, none⟩ = some (.int .i64 g1) ∧ W'.cell? ⟨w.heap.size, 1, none⟩ = some (.int .u64 g2) ∧ W'.cell? ⟨QB, 0, none⟩ = some (.int .i64 g.1) ∧ W'.cell? ⟨QB, 1, none⟩ = some (.int .u64 g.2) ∧ W'.cell? ⟨eb, 4, none⟩ = some (.pointer (some ⟨n.nb, 0, none⟩))) (first | exact ⟨b0, b1, p0, p1, n4⟩ | exact ⟨j0, j1, j2, j3, j4⟩ | exact ⟨i0, i1, i2, i3, i4⟩ | go_keep) (first
      | (go_at_call 41; refine (hAt.out _ bel_dw).mono ?_; rintro y w3 ⟨rfl, hb3⟩; have hw3 : Below wd.heap.size wd w3 := bel_dr (k := 1) hb3; have i0 := keep hw3 b0; have i1 := keep hw3 b1; have i2 := keep hw3 p0; have i3 := keep hw3 p1; have i4 := keep hw3 n4; have iq := Nat.lt_of_lt_of_le nq hw3.size; replace hw3 := Lib.hid hw3; replace hb3 := Lib.hid hb3)
      | (go_at_call 68; refine (hSet.out _ hw3.out).mono ?_; rintro y w4 ⟨rfl, ⟨T3, r1, r2, r3, r4, r5⟩, hkp⟩; have j0 := hkp _ _ i0 (fun h => by rw [show T2.ρ w.heap.size = 0 from hbr2] at h; cases h); have j1 := hkp _ _ i1 (fun h => by rw [show T2.ρ w.heap.size = 0 from hbr2] at h; cases h); have j2 := hkp _ _ i2 (fun h => by rw [show T2.ρ QB = 0 from hQr] at h; cases h); have j3 := hkp _ _ i3 (fun h => by rw [show T2.ρ QB = 0 from hQr] at h; cases h); have j4 := hkp _ _ i4 (fun h => hrole h); have hev4 := (TEv.below hA2.out hw3.out).trans r2; obtain ⟨c4, cq, cf⟩ := hcel.out w4 T3 r1 hev4 r4; replace hkp := Lib.hid hkp; replace r1 := Lib.hid r1; replace r2 := Lib.hid r2; replace r3 := Lib.hid r3; replace r4 := Lib.hid r4; replace r5 := Lib.hid r5; replace hev4 := Lib.hid hev4))
    all_goals
      go_wp2_with fail
      exact ⟨rfl, .tuple #[], by simp [results, Tryz.results48, go_sem], hfin.out w4 _ T3 r1.out hev4.out r3.out r4.out r5.out rfl⟩
end
end Go.Proofs.YtmhlokomlngdmaaGreat
namespace Go.Proofs.YtmhlokomlngdmaaGreat
open Go.RowKit
section
variable {w0 w w' w1 : World} {T T1 : TS} {C : Cont} {x : Hd × AN}
theorem AM.room (h : AM w0 w T) (n : Int) (W : World) (hW : Below w.heap.size w W) :
    Calls Tryz.prog 47 #[.pointer (some ⟨T.P.1, 0, none⟩), .int .i64 n] W fun e w' => e = .returned (.bool (decide (n ≤ (T.free.count true : Nat)))) ∧ Below W.heap.size W w' :=
  pRoom_any T.P.1 T.P.2.1 T.P.2.2 T.gens T.free n W (h.below hW).bw.ars.pool.1
theorem slice_from {k : Str} {q u : Byt} (h : bl k = q ++ u) {i : Int} (hi : i = q.length) (W : World) : (Instr.slice 9 (.string k) (some (.int .i64 i)) none none).run Tryz.prog W = .ok (.string (bs u)) W := by
  have hs := bl_size k
  rw [h, List.length_append] at hs
  rw [run_slice_string_l (t := 9) (s := k) (ht := Tryz.underlying9) W .i64 i (by omega) (by omega)]
  congr 2
  apply bl_inj
  rw [bl_bs]
  show (k.extract i.toNat k.size).data.toList = u
  rw [ByteArray.data_extract, Array.toList_extract]
  show (bl k).extract i.toNat k.size = u
  rw [h, List.extract_eq_take_drop, hi, Int.toNat_natCast, List.drop_left]
  exact List.take_of_length_le (by omega)
theorem slice_to {k : Str} {q u : Byt} (h : bl k = q ++ u) {i : Int} (hi : i = q.length) (W : World) : (Instr.slice 9 (.string k) none (some (.int .i64 i)) none).run Tryz.prog W = .ok (.string (bs q)) W := by
  have hs := bl_size k
  rw [h, List.length_append] at hs
  rw [run_slice_string_h (t := 9) (s := k) (ht := Tryz.underlying9) W .i64 i (by omega) (by omega)]
  congr 2
  apply bl_inj
  rw [bl_bs]
  show (k.extract 0 i.toNat).data.toList = q
  rw [ByteArray.data_extract, Array.toList_extract]
  show (bl k).extract 0 i.toNat = q
  rw [h, List.extract_eq_take_drop, hi, Int.toNat_natCast]
  simp
theorem LeafNew.own {S : List Nat} {nb : Nat} {wz : World} (h : LeafNew w0 w T T1 nb wz) (hw : w0.heap.size ≤ w.heap.size) (hu : Upd S wz w') (hS : ∀ q, q ∈ S → w.heap.size ≤ q ∧ T1.ρ q = 0) : LeafNew w0 w T T1 nb w' :=
  ⟨h.1.wr hu (fun q hq => ⟨Nat.le_trans hw (hS q hq).1, (hS q hq).2⟩), h.2.1.own h.1 hu (fun q hq => (hS q hq).1), h.2.2⟩
theorem LeafNew.base {nb : Nat} {wz wa : World} (h : LeafNew w0 wa T T1 nb wz) (h0 : TEv w wa T T) : LeafNew w0 w T T1 nb wz := ⟨h.1, h0.trans h.2.1, h.2.2⟩
def SplMid (w0 w : World) (T : TS) (n : AN) (t : Byt) (T2 : TS) (g : Hd) (nb : Nat) (wz : World) : Prop :=
  AM w0 wz T2 ∧ TEv w wz T T2 ∧ T2.F = T.F ++ [(g, { n with pre := bs t })] ∧ T2.K nb = some [] ∧ T2.n = T.n ∧ T2.free.count true + 1 = T.free.count true ∧ ∀ z, z ∈ T.F → z.1 ≠ g ∧ z.2.nb ≠ nb
theorem SplMid.own {S : List Nat} {n : AN} {t : Byt} {T2 : TS} {g : Hd} {nb : Nat} {wz : World} (h : SplMid w0 w T n t T2 g nb wz) (hw : w0.heap.size ≤ w.heap.size) (hu : Upd S wz w') (hS : ∀ q, q ∈ S → w.heap.size ≤ q ∧ T2.ρ q = 0) : SplMid w0 w T n t T2 g nb w' :=
  ⟨h.1.wr hu (fun q hq => ⟨Nat.le_trans hw (hS q hq).1, (hS q hq).2⟩), h.2.1.own h.1 hu (fun q hq => (hS q hq).1), h.2.2⟩
theorem SplMid.below {n : AN} {t : Byt} {T2 : TS} {g : Hd} {nb : Nat} {wz : World} (h : SplMid w0 w T n t T2 g nb wz) (hb : Below wz.heap.size wz w') : SplMid w0 w T n t T2 g nb w' :=
  ⟨h.1.below hb, h.2.1.trans (TEv.below h.1 hb), h.2.2⟩
theorem LeafNew.allocLow {nb : Nat} {wz : World} {hd : Hd} {n : AN} (h : LeafNew w0 w T T1 nb wz) (hx : (hd, n) ∈ T.F) (hk : T.K n.nb = some n.kids) (t : Byt) (hfr : true ∈ T.free) :
    ∃ g, Calls Tryz.prog 29 #[.pointer (some ⟨T.d.A.a, 0, none⟩), .agg #[.string (bs t), .string (n.val.getD s0), .bool n.val.isSome, .pointer (some ⟨n.nb, 0, none⟩)]] wz fun y w' =>
      y = .returned (.tuple #[hV g, .int .i64 0]) ∧ ∃ T2, SplMid w0 w T n t T2 g nb w' ∧ TEv wz w' T1 T2 := by
  obtain ⟨q1, q2, q3, q4, q5, q6, q7, q8⟩ := h
  obtain ⟨g, g1, g2⟩ := q1.alloc { n with pre := bs t } (by rw [q4]; exact (updK_other (q8 _ hx)).trans hk) (by rw [q6]; exact hfr)
  refine ⟨g, ?_⟩
  rw [q7] at g2
  refine g2.mono ?_
  rintro y w' ⟨rfl, T2, r1, r2, r3, r4, r5, r6⟩
  exact ⟨rfl, T2, ⟨r1, q2.trans r2, by rw [r3, q3], by rw [r4, q4]; exact updK_self, r5.trans q5, by rw [r6, q6], fun z hz => ⟨g1 z (by rw [q3]; exact hz), q8 z hz⟩⟩, r2⟩
theorem nb_split {F : AF} {hd g : Hd} {n m l : AN} {nb : Nat} (hnd : (F.map (·.2.nb)).Nodup) (hx : (hd, n) ∈ F) (hfr : ∀ z, z ∈ F → z.1 ≠ g ∧ z.2.nb ≠ nb) (hf : ((aset F hd m ++ [(g, l)]).map (·.1)).Nodup) (hm : m.nb = nb) (hl : l.nb = n.nb) : ((aset F hd m ++ [(g, l)]).map (·.2.nb)).Nodup := by
  have hmem : ∀ z, z ∈ aset F hd m ++ [(g, l)] → z = (hd, m) ∨ (z.1 ≠ hd ∧ z ∈ F) ∨ z = (g, l) := fun z hz => by
    rcases List.mem_append.1 hz with hz | hz
    · rcases (mem_aset ⟨n, hx⟩).1 hz with h | h
      · exact .inl h
      · exact .inr (.inl h)
    · simp at hz; exact .inr (.inr hz)
  have h0 := (hfr _ hx).2
  refine nodup_iff_inj (nodup_of_map hf) fun x y hx1 hy1 he => ?_
  rcases hmem x hx1 with rfl | ⟨x1, x2⟩ | rfl <;> rcases hmem y hy1 with rfl | ⟨y1, y2⟩ | rfl
  · rfl
  · exact absurd (he.symm.trans hm) (hfr y y2).2
  · exact absurd (hl.symm.trans (he.symm.trans hm)) h0
  · exact absurd (he.trans hm) (hfr x x2).2
  · exact nodup_inj hnd x2 y2 he
  · exact absurd (congrArg (·.1) (nodup_inj hnd x2 hx (he.trans hl))) x1
  · exact absurd (hl.symm.trans (he.trans hm)) h0
  · exact absurd (congrArg (·.1) (nodup_inj hnd y2 hx (he.symm.trans hl))) y1
  · rfl
/-- A node's cells in the arena are written. -/
theorem nx_stored {q : Nat} {gv : Value} {tc : TypeId} {n : AN} (h : w.heap[q]? = some (.cells (gv :: nxs n).toArray tc)) (m : AN) :
    ((((w.setCell ⟨q, 1, none⟩ (.string m.pre)).setCell ⟨q, 2, none⟩ (.string (m.val.getD s0))).setCell ⟨q, 3, none⟩ (.bool m.val.isSome)).setCell ⟨q, 4, none⟩ (.pointer (some ⟨m.nb, 0, none⟩))).heap[q]? = some (.cells (gv :: nxs m).toArray tc) ∧
    Upd [q] w ((((w.setCell ⟨q, 1, none⟩ (.string m.pre)).setCell ⟨q, 2, none⟩ (.string (m.val.getD s0))).setCell ⟨q, 3, none⟩ (.bool m.val.isSome)).setCell ⟨q, 4, none⟩ (.pointer (some ⟨m.nb, 0, none⟩))) := by
  have h0 : w.heap[q]? = some (.cells #[gv, .string n.pre, .string (n.val.getD s0), .bool n.val.isSome, .pointer (some ⟨n.nb, 0, none⟩)] tc) := h
  have h1 : (w.setCell ⟨q, 1, none⟩ (.string m.pre)).heap[q]? = some (.cells #[gv, .string m.pre, .string (n.val.getD s0), .bool n.val.isSome, .pointer (some ⟨n.nb, 0, none⟩)] tc) := heap_set_same h0 1 _
  have h2 : ((w.setCell ⟨q, 1, none⟩ (.string m.pre)).setCell ⟨q, 2, none⟩ (.string (m.val.getD s0))).heap[q]? = some (.cells #[gv, .string m.pre, .string (m.val.getD s0), .bool n.val.isSome, .pointer (some ⟨n.nb, 0, none⟩)] tc) := heap_set_same h1 2 _
  have h3 : (((w.setCell ⟨q, 1, none⟩ (.string m.pre)).setCell ⟨q, 2, none⟩ (.string (m.val.getD s0))).setCell ⟨q, 3, none⟩ (.bool m.val.isSome)).heap[q]? = some (.cells #[gv, .string m.pre, .string (m.val.getD s0), .bool m.val.isSome, .pointer (some ⟨n.nb, 0, none⟩)] tc) := heap_set_same h2 3 _
  refine ⟨heap_set_same h3 4 _, ?_⟩
  iterate 4 refine Upd.setCell ?_ (by simp) _
  exact Upd.refl _ _
/-- The node that was parted, and its lower part. -/
def spHigh (s q : Byt) (v0 : Option Str) (b : UInt8) (g : Hd) (nb : Nat) : AN := ⟨s ++ q, bs q, v0, [(b, g)], nb⟩
def SplitEnd (w0 w : World) (T : TS) (x : Hd × AN) (s q t : Byt) (b : UInt8) (key : Str) (v : Str) (e : Ending) (w' : World) : Prop :=
  (T.free.count true < (if bl key = [] then 1 else 2) ∧ e = .returned (.int .i64 5) ∧ Below w.heap.size w w') ∨
  ((if bl key = [] then 1 else 2) ≤ T.free.count true ∧ e = .returned (.int .i64 0) ∧ ∃ T' g nb, (∀ z, z ∈ T.F → z.1 ≠ g ∧ z.2.nb ≠ nb) ∧ AM w0 w' T' ∧ TEv w w' T T' ∧ T'.n = T.n + 1 ∧
    ((bl key = [] ∧ T'.F = aset T.F x.1 (spHigh s q (some v) b g nb) ++ [(g, { x.2 with pre := bs t })] ∧ T'.free.count true + 1 = T.free.count true) ∨
     ∃ b2 tl g2 nb2, bl key = b2 :: tl ∧ (∀ z, z ∈ aset T.F x.1 (spHigh s q none b g nb) ++ [(g, { x.2 with pre := bs t })] → z.1 ≠ g2 ∧ z.2.nb ≠ nb2) ∧
       T'.F = aset (aset T.F x.1 (spHigh s q none b g nb) ++ [(g, { x.2 with pre := bs t })]) x.1 { spHigh s q none b g nb with kids := kput [(b, g)] b2 g2 } ++ [(g2, ⟨s ++ q ++ b2 :: tl, bs tl, some v, [], nb2⟩)] ∧ T'.free.count true + 2 = T.free.count true))
set_option maxRecDepth 100000 in
set_option maxHeartbeats 16000000 in
theorem AM.split (h : AM w0 w T) (hx : x ∈ T.F) (hnd : (T.F.map (·.2.nb)).Nodup) {s q t : Byt} {b : UInt8} (hp : x.2.path = s ++ bl x.2.pre) (hpre : bl x.2.pre = q ++ b :: t) {key v : Str} (hn : T.n ≤ 100000) (hql : q.length ≤ 1000000) :
    Calls Tryz.prog 45 #[.pointer (some ⟨T.t, 0, none⟩), hV x.1, .int .i64 q.length, .string key, .string v] w (SplitEnd w0 w T x s q t b key v) := by
  obtain ⟨⟨g1, g2⟩, n⟩ := x
  obtain ⟨ke, hke⟩ : ∃ ke, ke = decide (bl key = []) := ⟨_, rfl⟩
  have hq0 : (ByteArray.toList key).isEmpty = ke := by rw [str_eq0, hke]
  obtain ⟨need, hneed⟩ : ∃ need : Nat, need = if bl key = [] then 1 else 2 := ⟨_, rfl⟩
  obtain ⟨wb, hwb⟩ : ∃ wb, wb = w.alloc (.cells #[.int .i64 g1, .int .u64 g2] 77) := ⟨_, rfl⟩
  have hB : Below w.heap.size w wb := by rw [hwb]; exact (Below.refl _ _).alloc (Nat.le_refl _) _
  have hbx : wb.heap[w.heap.size]? = some (.cells #[.int .i64 g1, .int .u64 g2] 77) := by rw [hwb]; exact heap_alloc_new _ _
  have hr0 : T.ρ w.heap.size = 0 := h.bw.ro.far _ (Nat.le_refl _)
  have hb := h.below hB
  obtain ⟨c0, c1, _, _, _, _, hq⟩ := hb.cells
  have hRoom := hb.room need wb (Below.refl _ _)
  obtain ⟨rm, hrm⟩ : ∃ rm, rm = decide ((need : Int) ≤ (T.free.count true : Nat)) := ⟨_, rfl⟩
  rw [← hrm] at hRoom
  replace hrm := Lib.hid hrm
  replace hke := Lib.hid hke
  replace hneed := Lib.hid hneed
  replace hB := Lib.hid hB
  replace hwb := Lib.hid hwb
  replace hbx := Lib.hid hbx
  replace hb := Lib.hid hb
  replace hr0 := Lib.hid hr0
  replace hnd := Lib.hid hnd
  replace hx := Lib.hid hx
  replace h := Lib.hid h
  replace hp := Lib.hid hp
  replace hpre := Lib.hid hpre
  go_enter Tryz.func45, Tryz.ntmps45
  go_upto_if 18 with fail
  rw [← hwb.out]
  go_cut [11] (fun v11 wz => v11 = .int .i64 need ∧ wz = wb)
  case first =>
    cases ke with
    | true =>
      have hk : bl key = [] := of_decide_eq_true hke.out.symm
      have hn1 : need = 1 := by rw [hneed.out, if_pos hk]
      subst hn1
      go_wp2_with fail
      go_meet
      exact ⟨rfl, rfl⟩
    | false =>
      have hk : ¬ bl key = [] := of_decide_eq_false hke.out.symm
      have hn1 : need = 2 := by rw [hneed.out, if_neg hk]
      subst hn1
      go_wp2_with fail
      go_meet
      exact ⟨rfl, rfl⟩
  case rest =>
    obtain ⟨rfl, hwz⟩ := hcut
    obtain ⟨wd, hwd⟩ : ∃ wd, wd = wc := ⟨_, rfl⟩
    rw [← hwd] at hwz ⊢
    clear hwd
    subst hwz
    go_wp2_with fail
    refine hRoom.mono ?_
    clear hRoom
    rintro e w1 ⟨rfl, hb1⟩
    cases rm with
    | false =>
      have hlt : T.free.count true < need := by have := of_decide_eq_false hrm.out.symm; omega
      rw [hneed.out] at hlt
      replace hb1 := Lib.hid hb1
      replace hlt := Lib.hid hlt
      go_wp2_with fail
      go_ret
      exact .inl ⟨hlt.out, rfl, hB.out.trans (hb1.out.mono hB.out.size)⟩
    | true =>
      have hle : need ≤ T.free.count true := by have := of_decide_eq_true hrm.out.symm; omega
      have hfr : true ∈ T.free := by
        have : 0 < T.free.count true := by have : 1 ≤ need := by rw [hneed.out]; split <;> omega
                                           omega
        exact List.count_pos_iff.1 this
      have hA1 := hb.out.below hb1
      obtain ⟨e, e1, e2, e3, e4, hAt⟩ := hA1.at hx.out
      have hbx1 := Below.heap' hb1 hbx.out
      have d1 := keep hb1 c1
      have dq := Nat.lt_of_lt_of_le hq hb1.size
      replace hAt := hAt w1 (Below.refl _ _)
      have hnx := Lib.hid fun W (hW : Below w1.heap.size w1 W) => nx_cells (Below.heap' hW e4)
      obtain ⟨b0, b1, bq, bf⟩ := cells2 hbx1
      replace hb1 := Lib.hid hb1
      replace hA1 := Lib.hid hA1
      replace hle := Lib.hid hle
      replace hfr := Lib.hid hfr
      replace hbx1 := Lib.hid hbx1
      clear c0 c1 hq
      go_wp2_with fail
      refine hAt.mono ?_
      clear hAt
      rintro y w2 ⟨rfl, hb2⟩
      obtain ⟨n1, n2, n3, n4, nq, nf⟩ := hnx.out w2 hb2
      go_upto_region 7 with fail
      have hA2 := hA1.out.below hb2
      have hb3 : Below w2.heap.size w2 (w2.alloc (.cells #[.string n.pre, .string (n.val.getD s0), .bool n.val.isSome, .pointer (some ⟨n.nb, 0, none⟩)] 75)) := (Below.refl _ _).alloc (Nat.le_refl _) _
      have hlb := heap_alloc_new w2 (.cells #[.string n.pre, .string (n.val.getD s0), .bool n.val.isSome, .pointer (some ⟨n.nb, 0, none⟩)] 75)
      have hl0 := hA2.bw.ro.far _ (Nat.le_refl w2.heap.size)
      have hA3 := hA2.below hb3
      have hbx3 := Below.heap' (hb2.trans (hb3.mono hb2.size)) hbx1.out
      have hB3 : Below wd.heap.size wd (w2.alloc (.cells #[.string n.pre, .string (n.val.getD s0), .bool n.val.isSome, .pointer (some ⟨n.nb, 0, none⟩)] 75)) := hb1.out.trans ((hb2.trans (hb3.mono hb2.size)).mono hb1.out.size)
      generalize w2.alloc (.cells #[.string n.pre, .string (n.val.getD s0), .bool n.val.isSome, .pointer (some ⟨n.nb, 0, none⟩)] 75) = w3 at *
      obtain ⟨LB, hLB⟩ : ∃ LB, LB = w2.heap.size := ⟨_, rfl⟩
      rw [← hLB] at hlb hl0 ⊢
      obtain ⟨l0, l1, l2, l3, lq, lf⟩ := cells4 hlb
      have ga : ∀ W, (Instr.index 9 (.string n.pre) (.int .i64 (q.length : Nat))).run Tryz.prog W = .ok (.int .u8 b.toNat) W := fun W => index_at hpre.out rfl W
      have gq : ∀ W, (Instr.slice 9 (.string n.pre) none (some (.int .i64 (q.length : Nat))) none).run Tryz.prog W = .ok (.string (bs q)) W := fun W => slice_to hpre.out rfl W
      have gt : ∀ W, (Instr.slice 9 (.string n.pre) (some (.int .i64 ((q.length : Int) + 1))) none none).run Tryz.prog W = .ok (.string (bs t)) W := fun W => slice_from (q := q ++ [b]) (by rw [hpre.out]; simp) (by simp) W
      have hcw : IntKind.i64.wrap ((q.length : Int) + 1) = (q.length : Int) + 1 := by
        exact IntWalk.i64_in _ (by omega)
      obtain ⟨qs, hqs⟩ : ∃ qs, qs = bs q := ⟨_, rfl⟩
      obtain ⟨ts, hts⟩ : ∃ ts, ts = bs t := ⟨_, rfl⟩
      rw [← hqs] at gq
      rw [← hts] at gt
      obtain ⟨nv, hnv⟩ : ∃ nv, nv = n.val.getD s0 := ⟨_, rfl⟩
      obtain ⟨nh, hnh⟩ : ∃ nh, nh = n.val.isSome := ⟨_, rfl⟩
      rw [← hnv, ← hnh] at hlb
      rw [← hnv] at l1
      rw [← hnh] at l2
      obtain ⟨_, c1, _, _, _, _, hq⟩ := hA3.cells
      have hNew := Lib.hid fun W (hW : Below w3.heap.size w3 W) => hA3.newKids W hW
      replace hB3 := Lib.hid hB3
      replace hA3 := Lib.hid hA3
      replace hbx3 := Lib.hid hbx3
      replace hlb := Lib.hid hlb
      replace hl0 := Lib.hid hl0
      replace hLB := Lib.hid hLB
      replace hqs := Lib.hid hqs
      replace hts := Lib.hid hts
      replace hnv := Lib.hid hnv
      replace hnh := Lib.hid hnh
      have hbb := Lib.hid hb2
      clear hA2 hb3 hb2 hbx1 b0 b1 bq bf d1 dq n1 n2 n3 n4 nq nf hnx e4 e1 e2 e3
      go_upto_region 8 with fail
      have hTE : Hid (TEv w w3 T T) := Lib.hid (TEv.below h.out (hB.out.trans (hB3.out.mono hB.out.size)))
      have hwl : w.heap.size ≤ w3.heap.size := hTE.out.ru.size
      have hw0 : w0.heap.size ≤ w.heap.size := h.out.bw.ro.bel.size
      have hlw : w.heap.size ≤ LB := by rw [hLB.out]; exact (hB.out.trans ((hb1.out.trans (hbb.out.mono hb1.out.size)).mono hB.out.size)).size
      have hlne : LB ≠ w.heap.size := by
        have h1 := heap_lt hbx.out
        have h2 := hb1.out.size
        have h3 := hbb.out.size
        rw [hLB.out]; omega
      go_cut [14] (fun v14 wz => ∃ HB nb T1, v14 = .pointer (some ⟨HB, 0, none⟩) ∧ w3.heap.size ≤ HB ∧ T1.ρ HB = 0 ∧ wz.heap[HB]? = some (.cells #[.string qs, .string ⟨#[]⟩, .bool false, .pointer (some ⟨nb, 0, none⟩)] 75) ∧ LeafNew w0 w T T1 nb wz ∧
        (wz.heap[LB]? = some (.cells #[.string n.pre, .string nv, .bool nh, .pointer (some ⟨n.nb, 0, none⟩)] 75) ∧ T1.ρ LB = 0) ∧ wz.heap[w.heap.size]? = some (.cells #[.int .i64 g1, .int .u64 g2] 77) ∧ T1.ρ w.heap.size = 0)
      case first =>
        have hne := World.new_ne w3 _ l0
        go_region_held3 (fun W' => W'.cell? ⟨LB, 0, none⟩ = some (.string n.pre)) (first | exact l0 | exact i0 | exact j0 | go_keep) (first
          | (go_at_call 30; refine (hNew.out _ (bel_dwa _)).mono ?_; rintro e w4 ⟨nb, T1, rfl, hN, hev, hb4⟩; have i0 := keep ((bel_dwa _).trans (hb4.mono (bel_dwa _).size)) l0; have qx := Below.heap' hb4 (new_dw w3 _); have qr := (hev.ru.role _ (heap_lt (new_dw w3 (.cells #[.string ⟨#[]⟩, .string ⟨#[]⟩, .bool false, .pointer none] 75)))).trans (hA3.out.bw.ro.far _ (Nat.le_refl _)); obtain ⟨x0, x1, x2, x3, xq, xf⟩ := cells4 qx; have hst := an_stored qx (.string qs) (.string ⟨#[]⟩) (.bool false) (.pointer (some ⟨nb, 0, none⟩)); replace qx := Lib.hid qx; replace qr := Lib.hid qr; replace hst := Lib.hid hst; replace hN := Lib.hid hN; replace hev := Lib.hid hev; replace hb4 := Lib.hid hb4)
          | (go_at_call 30; refine (hNew.out _ bel_dw).mono ?_; rintro e w4 ⟨nb, T1, rfl, hN, hev, hb4⟩; have i0 := keep (bel_dr (k := 1) hb4) l0; have hne1 := World.new_ne w4 _ i0; replace hN := Lib.hid hN; replace hev := Lib.hid hev; replace hb4 := Lib.hid hb4))
        all_goals
          go_wp2_with fail
          go_meet
          have k1 := hN.out.2.1.keep hlb.out hl0.out
          have k2 := hN.out.2.1.keep hbx3.out hr0.out
          have l5 := heap_lt hlb.out
          have l6 := heap_lt hbx3.out
          first
          | (have hqr := qr.out
             exact ⟨w3.heap.size, nb, T1, rfl, Nat.le_refl _, qr.out, hst.out.1, (hN.out.base hTE.out).own hw0 hst.out.2 (fun q hq => by rw [List.mem_singleton.1 hq]; exact ⟨hwl, qr.out⟩), ⟨hst.out.2.heap k1.1 (fun hm => by have := List.mem_singleton.1 hm; omega), k1.2⟩, hst.out.2.heap k2.1 (fun hm => by have := List.mem_singleton.1 hm; omega), k2.2⟩)
          | (have hA4 : Below w4.heap.size w4 (w4.alloc (.cells #[.string qs, .string ⟨#[]⟩, .bool false, .pointer (some ⟨nb, 0, none⟩)] 75)) := (Below.refl _ _).alloc (Nat.le_refl _) _
             exact ⟨w4.heap.size, nb, T1, rfl, hN.out.2.1.ru.size, hN.out.1.bw.ro.far _ (Nat.le_refl _), heap_alloc_new _ _, (hN.out.below hA4).base hTE.out, ⟨Below.heap' hA4 k1.1, k1.2⟩, Below.heap' hA4 k2.1, k2.2⟩)
      case rest =>
        obtain ⟨HB, nb, T1, rfl, hHq, hHr, hHc, hN, ⟨hLc, hLr⟩, hXc, hXr⟩ := hcut
        clear l0 l1 l2 l3 lq lf c1 hNew hq
        obtain ⟨l0, l1, l2, l3, lq, lf⟩ := cells4 hLc
        have hhl : HB ≠ LB := fun e => by have := heap_lt hlb.out; omega
        have hhx : HB ≠ w.heap.size := fun e => by have := heap_lt hbx3.out; omega
        have s0' : (wc.setCell ⟨LB, 0, none⟩ (.string ts)).heap[LB]? = some (.cells #[.string ts, .string nv, .bool nh, .pointer (some ⟨n.nb, 0, none⟩)] 75) := heap_set_same hLc 0 _
        have s1 : Upd [LB] wc (wc.setCell ⟨LB, 0, none⟩ (.string ts)) := Upd.setCell (Upd.refl _ _) (by simp) _
        have hN5 := hN.own hw0 s1 (fun q hq => by rw [List.mem_singleton.1 hq]; exact ⟨hlw, hLr⟩)
        have hH5 := s1.heap hHc (fun hm => hhl (List.mem_singleton.1 hm))
        have hX5 := s1.heap hXc (fun hm => hlne (List.mem_singleton.1 hm).symm)
        replace hHc := Lib.hid hHc
        replace hN := Lib.hid hN
        replace hLc := Lib.hid hLc
        replace hXc := Lib.hid hXc
        go_upto_region 10 with fail
        generalize wc.setCell ⟨LB, 0, none⟩ (.string ts) = w5 at *
        have c1 := hN5.2.1.cell1 hN5.1
        have hq5 : T.t < w5.heap.size := by have := heap_lt hN5.1.blk; rw [hN5.2.1.t] at this; exact this
        obtain ⟨u0, u1, u2, u3, uq, uf⟩ := cells4 s0'
        have hAl : ∀ W, Below w5.heap.size w5 W → ∃ g, Calls Tryz.prog 29 #[.pointer (some ⟨T.d.A.a, 0, none⟩), .agg #[.string ts, .string nv, .bool nh, .pointer (some ⟨n.nb, 0, none⟩)]] W fun y w' => y = .returned (.tuple #[hV g, .int .i64 0]) ∧ ∃ T2, SplMid w0 w T n t T2 g nb w' ∧ TEv W w' T1 T2 := fun W hW => by
          have := (hN5.below hW).allocLow hx.out (h.out.kid _ hx.out) t hfr.out
          rw [← hts.out, ← hnv.out, ← hnh.out] at this
          exact this
        replace hAl := Lib.hid hAl
        replace hN5 := Lib.hid hN5
        replace s0' := Lib.hid s0'
        replace hH5 := Lib.hid hH5
        replace hX5 := Lib.hid hX5
        clear l0 l1 l2 l3 lq lf gq gt ga hcw s1
        go_cut [15] (fun v15 wz => ∃ QB g T2, v15 = .pointer (some ⟨QB, 0, none⟩) ∧ T2.ρ QB = 0 ∧ wz.heap[QB]? = some (.cells #[.int .i64 g.1, .int .u64 g.2] 77) ∧ SplMid w0 w T n t T2 g nb wz ∧
          (wz.heap[HB]? = some (.cells #[.string qs, .string ⟨#[]⟩, .bool false, .pointer (some ⟨nb, 0, none⟩)] 75) ∧ T2.ρ HB = 0) ∧ wz.heap[w.heap.size]? = some (.cells #[.int .i64 g1, .int .u64 g2] 77) ∧ T2.ρ w.heap.size = 0)
        case first =>
          have hne := World.new_ne w5 _ c1
          have hne2 := World.new_ne w5 _ u0
          go_region_held3 (fun W' => W'.cell? ⟨T.t, 1, none⟩ = some (.pointer (some ⟨T.d.A.a, 0, none⟩)) ∧ W'.cell? ⟨LB, 0, none⟩ = some (.string ts) ∧ W'.cell? ⟨LB, 1, none⟩ = some (.string nv) ∧ W'.cell? ⟨LB, 2, none⟩ = some (.bool nh) ∧ W'.cell? ⟨LB, 3, none⟩ = some (.pointer (some ⟨n.nb, 0, none⟩))) (first | exact ⟨c1, u0, u1, u2, u3⟩ | exact ⟨i0, i1, i2, i3, i4⟩ | go_keep) (first
            | (go_at_call 29; obtain ⟨g, hCl⟩ := hAl.out _ (bel_dwa (.cells #[.int .i64 0, .int .u64 0] 77)); refine hCl.mono ?_; rintro y w6 ⟨rfl, T2, hM, hev⟩; have i0 := hM.2.1.cell1 hM.1; obtain ⟨i1, i2, i3, i4, _, _⟩ := cells4 (hev.keep (Below.heap' (bel_dwa _) s0'.out) hLr).1; have q6 := hev.keep (new_dw w5 _) (hN5.out.1.bw.ro.far _ (Nat.le_refl _)); obtain ⟨p0, p1, pq, pf⟩ := cells2 q6.1; have hH6 := hev.keep (Below.heap' (bel_dwa _) hH5.out) hHr; have hX6 := hev.keep (Below.heap' (bel_dwa _) hX5.out) hXr; replace q6 := Lib.hid q6; replace hH6 := Lib.hid hH6; replace hX6 := Lib.hid hX6; replace hM := Lib.hid hM; replace hev := Lib.hid hev; replace hCl := Lib.hid hCl)
            | (go_at_call 29; obtain ⟨g, hCl⟩ := hAl.out _ bel_dw; refine hCl.mono ?_; rintro y w6 ⟨rfl, T2, hM, hev⟩; have i0 := hM.2.1.cell1 hM.1; obtain ⟨i1, i2, i3, i4, _, _⟩ := cells4 (hev.keep (Below.heap' bel_dw s0'.out) hLr).1; have hH6 := hev.keep (Below.heap' bel_dw hH5.out) hHr; have hX6 := hev.keep (Below.heap' bel_dw hX5.out) hXr; have hne6 := World.new_ne w6 _ i0; have hne7 := World.new_ne w6 _ i1; replace hH6 := Lib.hid hH6; replace hX6 := Lib.hid hX6; replace hM := Lib.hid hM; replace hev := Lib.hid hev; replace hCl := Lib.hid hCl))
          all_goals
            go_wp2_with fail
            go_meet
            have l7 := heap_lt hH5.out
            have l8 := heap_lt hX5.out
            have l9 : w.heap.size ≤ w5.heap.size := hN5.out.2.1.ru.size
            first
            | (have hq6 := q6.out
               have hs6 := hd_stored hq6.1 (.int .i64 g.1) (.int .u64 g.2)
               exact ⟨w5.heap.size, g, T2, rfl, hq6.2, hs6.1, hM.out.own hw0 hs6.2 (fun q hq => by rw [List.mem_singleton.1 hq]; exact ⟨l9, hq6.2⟩), ⟨hs6.2.heap hH6.out.1 (fun hm => by have := List.mem_singleton.1 hm; omega), hH6.out.2⟩, hs6.2.heap hX6.out.1 (fun hm => by have := List.mem_singleton.1 hm; omega), hX6.out.2⟩)
            | (have hA6 : Below w6.heap.size w6 (w6.alloc (.cells #[.int .i64 g.1, .int .u64 g.2] 77)) := (Below.refl _ _).alloc (Nat.le_refl _) _
               exact ⟨w6.heap.size, g, T2, rfl, hM.out.1.bw.ro.far _ (Nat.le_refl _), heap_alloc_new _ _, hM.out.below hA6, ⟨Below.heap' hA6 hH6.out.1, hH6.out.2⟩, Below.heap' hA6 hX6.out.1, hX6.out.2⟩)
        case rest =>
          obtain ⟨QB, g, T2, rfl, hQr, hQc, hM, ⟨hHc, hHr⟩, hXc, hXr⟩ := hcut
          obtain ⟨hA2, hev2, hF2, hK2, hn2, hc2, hfr2⟩ := hM
          obtain ⟨B, k1, k2, k3⟩ := hA2.kput0 hK2 (fun z hz => by
            rw [hF2] at hz
            rcases List.mem_append.1 hz with hz | hz
            · exact (hfr2 z hz).2
            · simp at hz; subst hz; exact (hfr2 _ hx.out).2)
          have hSet := anSet_any k1 b g
          obtain ⟨p0, p1, pq, pf⟩ := cells2 hQc
          obtain ⟨v0, v1, v2, v3, vq, vf⟩ := cells4 hHc
          replace hA2 := Lib.hid hA2
          replace hev2 := Lib.hid hev2
          replace hF2 := Lib.hid hF2
          replace hn2 := Lib.hid hn2
          replace hc2 := Lib.hid hc2
          replace hfr2 := Lib.hid hfr2
          replace hHc := Lib.hid hHc
          replace hXc := Lib.hid hXc
          replace hQc := Lib.hid hQc
          replace k3 := Lib.hid k3
          clear c1 hq5 u0 u1 u2 u3 uq uf hAl hN5 s0' hH5 hX5 k1 k2
          go_wp2_with fail
          refine hSet.mono ?_
          clear hSet
          rintro e7 w7 ⟨rfl, hE⟩
          obtain ⟨T3, r1, r2, r3, r4, r5, r6, _, _⟩ := k3.out w7 _ hE
          have hH7 := r2.keep hHc.out hHr
          have hX7 := r2.keep hXc.out hXr
          have hK3 : T3.K nb = some [(b, g)] := by rw [r4]; exact updK_self
          have hev3 := hev2.out.trans r2
          obtain ⟨_, _, _, _, n4, _, nq4⟩ := r1.cells
          rw [hev3.t, r5, hn2.out] at n4
          rw [hev3.t] at nq4
          have hfz : ∀ i, w7.frozen? ⟨T.t, i, none⟩ = false := fun i => by
            have := r1.blk
            rw [hev3.t] at this
            exact frozen_of_heap this i
          have hF3 : T3.F = T.F ++ [(g, { n with pre := bs t })] := r3.trans hF2.out
          have hn3 : T3.n = T.n := r5.trans hn2.out
          have hc3 : T3.free.count true + 1 = T.free.count true := by rw [r6]; exact hc2.out
          obtain ⟨v0, v1, v2, v3, vq, vf⟩ := cells4 hH7.1
          clear p0 p1 pq pf hE k3 r2 r3 r4 r5 r6 hHc hXc hQc hA2 hev2 hF2 hn2 hc2
          replace r1 := Lib.hid r1
          replace hev3 := Lib.hid hev3
          replace hK3 := Lib.hid hK3
          replace hF3 := Lib.hid hF3
          replace hn3 := Lib.hid hn3
          replace hc3 := Lib.hid hc3
          replace hH7 := Lib.hid hH7
          replace hX7 := Lib.hid hX7
          obtain ⟨vv, hvv⟩ : ∃ vv : Option Str, vv = if ke = true then some v else none := ⟨_, rfl⟩
          have hnw : IntKind.i64.wrap ((T.n : Int) + 1) = (T.n : Int) + 1 := IntWalk.i64_in _ (by omega)
          go_upto_if 62 with fail
          go_cut [] (fun wz => ∃ T4, AM w0 wz T4 ∧ TEv w wz T T4 ∧ T4.F = T.F ++ [(g, { n with pre := bs t })] ∧ T4.K nb = some [(b, g)] ∧ T4.n = T.n + (if ke = true then 1 else 0) ∧ T4.free.count true + 1 = T.free.count true ∧
            (wz.heap[HB]? = some (.cells #[.string qs, .string (vv.getD s0), .bool vv.isSome, .pointer (some ⟨nb, 0, none⟩)] 75) ∧ T4.ρ HB = 0) ∧ wz.heap[w.heap.size]? = some (.cells #[.int .i64 g1, .int .u64 g2] 77) ∧ T4.ρ w.heap.size = 0)
          case first =>
            cases ke with
            | false =>
              have hv0 : vv = none := hvv
              subst hv0
              go_wp2_with fail
              go_meet
              exact ⟨T3, r1.out, hev3.out, hF3.out, hK3.out, hn3.out, hc3.out, hH7.out, hX7.out⟩
            | true =>
              have hv0 : vv = some v := hvv
              subst hv0
              have hhb : w.heap.size ≤ HB := Nat.le_trans hwl hHq
              have z1 : (w7.setCell ⟨HB, 1, none⟩ (.string v)).heap[HB]? = some (.cells #[.string qs, .string v, .bool false, .pointer (some ⟨nb, 0, none⟩)] 75) := heap_set_same hH7.out.1 1 _
              have z2 : ((w7.setCell ⟨HB, 1, none⟩ (.string v)).setCell ⟨HB, 2, none⟩ (.bool true)).heap[HB]? = some (.cells #[.string qs, .string v, .bool true, .pointer (some ⟨nb, 0, none⟩)] 75) := heap_set_same z1 2 _
              have zu : Upd [HB] w7 ((w7.setCell ⟨HB, 1, none⟩ (.string v)).setCell ⟨HB, 2, none⟩ (.bool true)) := Upd.setCell (Upd.setCell (Upd.refl _ _) (by simp) _) (by simp) _
              have z3 := r1.out.wr zu (fun q hq => by rw [List.mem_singleton.1 hq]; exact ⟨Nat.le_trans hw0 hhb, hH7.out.2⟩)
              have z4 := hev3.out.own r1.out zu (fun q hq => by rw [List.mem_singleton.1 hq]; exact hhb)
              have z5 := zu.heap hX7.out.1 (fun hm => hhx (List.mem_singleton.1 hm).symm)
              have hbl := z3.blk
              have ht3 : T3.t = T.t := hev3.out.t
              have zs := heap_set_same hbl 4 (.int .i64 ((T.n : Int) + 1))
              have hts : HB ≠ T3.t := fun e => by have h1 := r1.out.rol; rw [← e, hH7.out.2] at h1; cases h1
              have htx : w.heap.size ≠ T3.t := fun e => by have h1 := r1.out.rol; rw [← e, hX7.out.2] at h1; cases h1
              have hts' : ¬ HB = T.t := fun e => hts (e.trans ht3.symm)
              have hts2 : ¬ T.t = HB := fun e => hts' e.symm
              generalize hw8 : (w7.setCell ⟨HB, 1, none⟩ (.string v)).setCell ⟨HB, 2, none⟩ (.bool true) = w8 at z2 z3 z4 z5 hbl zs
              have zU : Upd [T3.t] w8 (w8.setCell ⟨T3.t, 4, none⟩ (.int .i64 ((T.n : Int) + 1))) := Upd.setCell (Upd.refl _ _) (by simp) _
              obtain ⟨y1, y2⟩ := z3.size (T.n + 1) zU zs
              have y3 := zU.heap z2 (fun hm => hts (List.mem_singleton.1 hm))
              have y4 := zU.heap z5 (fun hm => htx (List.mem_singleton.1 hm))
              rw [ht3, ← hw8] at y1 y2 y3 y4
              rw [← hw8] at z4
              replace y1 := Lib.hid y1
              replace y2 := Lib.hid (z4.trans y2)
              replace y3 := Lib.hid y3
              replace y4 := Lib.hid y4
              clear z1 z2 z3 z4 z5 zu hbl zs zU hw8
              go_wp2_with fail
              go_meet
              exact ⟨_, y1.out, y2.out, hF3.out, hK3.out, rfl, hc3.out, ⟨y3.out, hH7.out.2⟩, y4.out, hX7.out.2⟩
          case rest =>
            obtain ⟨T4, hA4, hev4, hF4, hK4, hn4, hc4, ⟨hHc, hHr⟩, hXc, hXr⟩ := hcut
            obtain ⟨w8, hw8⟩ : ∃ w8, w8 = wc := ⟨_, rfl⟩
            rw [← hw8] at hA4 hev4 hHc hXc ⊢
            clear hw8
            have hx4 : ((g1, g2), n) ∈ T4.F := by rw [hF4]; exact List.mem_append_left _ hx.out
            obtain ⟨e, e1, e2, e3, e4, hAt⟩ := hA4.at hx4
            rw [hev4.t] at hAt
            have her : T4.ρ e.blk ≠ 0 := by
              have := ((hA4.bw.ars.ar _ _ hA4.hd).th e e1).1
              omega
            have heh : ¬ e.blk = HB := fun h => her (by rw [h]; exact hHr)
            have hex : ¬ e.blk = w.heap.size := fun h => her (by rw [h]; exact hXr)
            obtain ⟨v0, v1, v2, v3, vq2, vf2⟩ := cells4 hHc
            obtain ⟨b0, b1, bq, bf⟩ := cells2 hXc
            have hnx := Lib.hid fun W (hW : Below w8.heap.size w8 W) => Below.heap' hW e4
            have heq : e.blk < w8.heap.size := heap_lt e4
            have hfin : Hid (∀ w9 w10, Below w8.heap.size w8 w9 → Upd [e.blk] w9 w10 → w10.heap[e.blk]? = some (.cells (.int .u64 e.gen :: nxs (spHigh s q vv b g nb)).toArray 129) → ∃ T5, AM w0 w10 T5 ∧ TEv w w10 T T5 ∧ T5.F = aset T.F (g1, g2) (spHigh s q vv b g nb) ++ [(g, { n with pre := bs t })] ∧ T5.n = T4.n ∧ T5.free = T4.free) := Lib.hid fun w9 w10 hb9 hu hc => by
              obtain ⟨T5, a1, a2, a3, a4, a5, a6⟩ := (hA4.below hb9).store hx4 e1 e2 e3 (spHigh s q vv b g nb) hK4 hu hc
              exact ⟨T5, a1, (hev4.trans (TEv.below hA4 hb9)).trans a2, by rw [a3, hF4]; exact aset_app (fun h => (hfr2.out _ hx.out).1 h.symm), a5, a6⟩
            obtain ⟨eb, heb⟩ : ∃ eb, eb = e.blk := ⟨_, rfl⟩
            rw [← heb] at hAt heh hex heq hfin
            have hnxb := Lib.hid fun W (hW : Below w8.heap.size w8 W) => (by rw [heb]; exact hnx.out W hW : W.heap[eb]? = some (.cells (.int .u64 e.gen :: nxs n).toArray 129))
            replace hAt := Lib.hid hAt
            replace hA4 := Lib.hid hA4
            replace hev4 := Lib.hid hev4
            replace hF4 := Lib.hid hF4
            replace hK4 := Lib.hid hK4
            replace hn4 := Lib.hid hn4
            replace hc4 := Lib.hid hc4
            replace hHc := Lib.hid hHc
            replace hXc := Lib.hid hXc
            replace heb := Lib.hid heb
            replace hvv := Lib.hid hvv
            have heh2 : ¬ HB = eb := fun h => heh h.symm
            have hex2 : ¬ w.heap.size = eb := fun h => hex h.symm
            clear e4 hnx n4 nq4 hfz hx4 hH7 hX7 r1 hev3 hF3 hn3 hc3 hK3
            go_upto_region 15 with fail
            go_cut [] (fun wz => ∃ T5, AM w0 wz T5 ∧ TEv w wz T T5 ∧ T5.F = aset T.F (g1, g2) (spHigh s q vv b g nb) ++ [(g, { n with pre := bs t })] ∧ T5.n = T4.n ∧ T5.free = T4.free ∧ wz.heap[w.heap.size]? = some (.cells #[.int .i64 g1, .int .u64 g2] 77))
            case first =>
              go_region_held3 (fun W' => W'.cell? ⟨w.heap.size, 0, none⟩ = some (.int .i64 g1) ∧ W'.cell? ⟨w.heap.size, 1, none⟩ = some (.int .u64 g2) ∧ W'.cell? ⟨HB, 0, none⟩ = some (.string qs) ∧ W'.cell? ⟨HB, 1, none⟩ = some (.string (vv.getD s0)) ∧ W'.cell? ⟨HB, 2, none⟩ = some (.bool vv.isSome) ∧ W'.cell? ⟨HB, 3, none⟩ = some (.pointer (some ⟨nb, 0, none⟩))) (first | exact ⟨b0, b1, v0, v1, v2, v3⟩ | exact ⟨i0, i1, i2, i3, i4, i5⟩ | exact ⟨j0, j1, j2, j3, j4, j5⟩ | go_keep) (first
                | (go_at_call 41; refine (hAt.out _ bel_dw).mono ?_; rintro y w9 ⟨rfl, hb9⟩; have hw9 : Below w8.heap.size w8 w9 := bel_dr (k := 1) hb9; have i0 := keep hw9 b0; have i1 := keep hw9 b1; have i2 := keep hw9 v0; have i3 := keep hw9 v1; have i4 := keep hw9 v2; have i5 := keep hw9 v3; have hc9 := hnxb.out w9 hw9; have hst := nx_stored hc9 (spHigh s q vv b g nb); simp only [spHigh, ← hqs.out] at hst; obtain ⟨x1, x2, x3, x4, xq, xf⟩ := nx_cells hc9; have j0 := hst.2.cell i0 (fun hm => hex2 (List.mem_singleton.1 hm)); have j1 := hst.2.cell i1 (fun hm => hex2 (List.mem_singleton.1 hm)); have j2 := hst.2.cell i2 (fun hm => heh2 (List.mem_singleton.1 hm)); have j3 := hst.2.cell i3 (fun hm => heh2 (List.mem_singleton.1 hm)); have j4 := hst.2.cell i4 (fun hm => heh2 (List.mem_singleton.1 hm)); have j5 := hst.2.cell i5 (fun hm => heh2 (List.mem_singleton.1 hm)); have hx9 := hst.2.heap (Below.heap' hw9 hXc.out) (fun hm => hex2 (List.mem_singleton.1 hm)); replace hst := Lib.hid hst; replace hw9 := Lib.hid hw9; replace hb9 := Lib.hid hb9; replace hc9 := Lib.hid hc9; replace hx9 := Lib.hid hx9))
              all_goals
                go_wp2_with fail
                go_meet
                obtain ⟨T5, a1, a2, a3, a4, a5⟩ := hfin.out w9 _ hw9.out hst.out.2 (by unfold spHigh; rw [← hqs.out]; exact hst.out.1)
                exact ⟨T5, a1, a2, a3, a4, a5, hx9.out⟩
            case rest =>
              obtain ⟨T5, a1, a2, a3, a4, a5, hX5⟩ := hcut
              obtain ⟨wf, hwf⟩ : ∃ wf, wf = wc := ⟨_, rfl⟩
              rw [← hwf] at a1 a2 hX5 ⊢
              clear hwf
              have hc5 : T5.free.count true + 1 = T.free.count true := by rw [a5]; exact hc4.out
              have hn5 : T5.n = T.n + (if ke = true then 1 else 0) := a4.trans hn4.out
              have hle := hle.out
              rw [hneed.out] at hle
              cases ke with
              | true =>
                have hk : bl key = [] := of_decide_eq_true hke.out.symm
                have hv0 : vv = some v := hvv.out
                subst hv0
                have hend : Hid (SplitEnd w0 w T ((g1, g2), n) s q t b key v (.returned (.int .i64 0)) wf) := Lib.hid (.inr ⟨hle, rfl, T5, g, nb, hfr2.out, a1, a2, hn5, .inl ⟨hk, a3, hc5⟩⟩)
                replace hvv := Lib.hid hvv
                clear a1 a2 a3 a4 a5 hX5 hc5 hn5 hle
                go_wp2_with fail
                go_ret
                exact hend.out
              | false =>
                have hk : ¬ bl key = [] := of_decide_eq_false hke.out.symm
                have hv0 : vv = none := hvv.out
                subst hv0
                obtain ⟨b2, tl, hbt⟩ : ∃ b2 tl, bl key = b2 :: tl := by
                  cases hh : bl key with
                  | nil => exact absurd hh hk
                  | cons b2 tl => exact ⟨b2, tl, rfl⟩
                have hx5 : ((g1, g2), spHigh s q none b g nb) ∈ T5.F := by rw [a3]; exact List.mem_append_left _ ((mem_aset ⟨n, hx.out⟩).2 (.inl rfl))
                have hf5 := a1.ndf
                rw [a3] at hf5
                have hnd5 := nb_split hnd.out hx.out hfr2.out hf5 rfl rfl
                rw [← a3] at hnd5
                rw [if_neg hk] at hle
                have hfr5 : true ∈ T5.free := List.count_pos_iff.1 (by omega)
                have hks5 : KSort (spHigh s q none b g nb).kids := List.pairwise_singleton _ _
                have hn5' : T5.n = T.n := hn5
                have hL := a1.leaf hx5 hnd5 hks5 (key := key) (v := v) hbt hfr5 (by omega)
                rw [a2.t] at hL
                obtain ⟨m0, m1, mq, mf⟩ := cells2 hX5
                have hend : Hid (∀ e6 w6, LeafEnd w0 wf T5 ((g1, g2), spHigh s q none b g nb) b2 tl v e6 w6 → SplitEnd w0 w T ((g1, g2), n) s q t b key v (.returned (.int .i64 0)) w6) := Lib.hid fun e6 w6 hE => by
                  obtain ⟨_, T6, g6, nb6, q1, q2, q3, q4, q5, q6⟩ := hE
                  refine .inr ⟨by rw [if_neg hk]; exact hle, rfl, T6, g, nb, hfr2.out, q1, a2.trans q2, by rw [q5, hn5'], .inr ⟨b2, tl, g6, nb6, hbt, fun z hz => q4 z (by rw [a3]; exact hz), by rw [q3, a3]; rfl, by omega⟩⟩
                replace hL := Lib.hid hL
                replace hvv := Lib.hid hvv
                clear a1 a2 a3 a4 a5 hX5 hc5 hn5 hle hx5 hf5 hnd5 hfr5 hks5 hn5' hk
                go_wp2_with fail
                refine hL.out.mono ?_
                rintro e6 w6 hE
                have hr6 := hE.1
                subst hr6
                replace hE := Lib.hid (hend.out _ _ hE)
                go_wp2_with fail
                go_ret
                exact hE.out
end
end Go.Proofs.YtmhlokomlngdmaaGreat
