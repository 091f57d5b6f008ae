/- What a Put of a trie makes of its nodes: how many children, how many nodes, how long the paths; no program in sight. What a Delete of a trie makes of its nodes; no program in sight. -/
import Derived.Test.YtmhlokomlngdmaaArtN
import Derived.Test.YtmhlokomlngdmaaArtSf
namespace Go.Proofs.Ytmhlokomlngdmaa
section
variable {F : AF} {r : Hd} {C : Cont} {x : Hd × AN}
theorem nrm_set (hn : ANrm F r) {m : AN} (hx : x ∈ F) (hm : m.val.isSome = true ∨ 2 ≤ m.kids.length ∨ x.1 = r) : ANrm (aset F x.1 m) r := fun z hz => by
  rcases (mem_aset ⟨x.2, hx⟩).1 hz with rfl | ⟨_, hz⟩
  · rcases hm with h | h | h
    · exact .inr (.inl h)
    · exact .inr (.inr h)
    · exact .inl h
  · exact hn z hz
theorem nrm_app (hn : ANrm F r) {g : Hd} {m : AN} (hm : m.val.isSome = true ∨ 2 ≤ m.kids.length) : ANrm (F ++ [(g, m)]) r := fun z hz => by
  rcases List.mem_append.1 hz with hz | hz
  · exact hn z hz
  · simp at hz; subst hz; exact .inr hm
theorem lim_set {N : Nat} (hl : ∀ x, x ∈ F → x.2.path.length ≤ N) {m : AN} (hx : x ∈ F) (hm : m.path.length ≤ N) : ∀ z, z ∈ aset F x.1 m → z.2.path.length ≤ N := fun z hz => by
  rcases (mem_aset ⟨x.2, hx⟩).1 hz with rfl | ⟨_, hz⟩
  · exact hm
  · exact hl z hz
theorem lim_app {N : Nat} (hl : ∀ x, x ∈ F → x.2.path.length ≤ N) {g : Hd} {m : AN} (hm : m.path.length ≤ N) : ∀ z, z ∈ F ++ [(g, m)] → z.2.path.length ≤ N := fun z hz => by
  rcases List.mem_append.1 hz with hz | hz
  · exact hl z hz
  · simp at hz; subst hz; exact hm
theorem nb_set {m : AN} (hn : (F.map (·.2.nb)).Nodup) (hf : (F.map (·.1)).Nodup) (hx : x ∈ F) (hm : m.nb = x.2.nb) : ((aset F x.1 m).map (·.2.nb)).Nodup := by
  refine nodup_iff_inj (nodup_of_map (f := (·.1)) (by rw [aset_fst]; exact hf)) fun y z hy hz he => ?_
  rcases (mem_aset ⟨x.2, hx⟩).1 hy with rfl | ⟨y1, y2⟩ <;> rcases (mem_aset ⟨x.2, hx⟩).1 hz with rfl | ⟨z1, z2⟩
  · rfl
  · exact absurd (congrArg (·.1) (nodup_inj hn z2 hx (he.symm.trans hm))) z1
  · exact absurd (congrArg (·.1) (nodup_inj hn y2 hx (he.trans hm))) y1
  · exact nodup_inj hn y2 z2 he
theorem nb_app {g : Hd} {m : AN} (hn : (F.map (·.2.nb)).Nodup) (hm : ∀ z, z ∈ F → z.2.nb ≠ m.nb) : ((F ++ [(g, m)]).map (·.2.nb)).Nodup := by
  rw [List.map_append, List.nodup_append]
  refine ⟨hn, by simp, fun a ha b hb hh => ?_⟩
  obtain ⟨z, hz, rfl⟩ := List.mem_map.1 ha
  simp at hb
  exact hm z hz (hh.trans hb)
theorem kput_two {b b2 : UInt8} {g g2 : Hd} (h : b2 ≠ b) : (kput [(b, g)] b2 g2).length = 2 := by
  have := kput_len (L := [(b, g)]) (List.pairwise_singleton _ _) b2 g2
  rw [this]
  have : kget [(b, g)] b2 = none := kget_none_iff.2 fun y hy => by simp at hy; subst hy; exact fun e => h e.symm
  rw [this]; rfl
theorem kget_one {b b2 : UInt8} {g : Hd} (h : b2 ≠ b) : kget [(b, g)] b2 = none := kget_none_iff.2 fun y hy => by simp at hy; subst hy; exact fun e => h e.symm
/-- What a Put may make of a tree: m nodes more. -/
structure PutF (F : AF) (r : Hd) (C : Cont) (k v : Str) (m : Nat) (F' : AF) : Prop where
  ok : AOK F' r
  ct : ACt F' (cput C k v)
  nm : ANrm F' r
  len : F'.length = F.length + m
  lim : (∀ x, x ∈ F → x.2.path.length ≤ 600) → k.size ≤ 600 → ∀ x, x ∈ F' → x.2.path.length ≤ 600
theorem put_val (h : AOK F r) (hc : ACt F C) (hn : ANrm F r) (hx : x ∈ F) {k v : Str} (hk : bl k = x.2.path) : PutF F r C k v 0 (aset F x.1 { x.2 with val := some v }) :=
  ⟨h.setVal hx _, hc.setVal h hx hk, nrm_set hn hx (.inl rfl), aset_len _ _ _, fun hl _ => lim_set hl hx (hl x hx)⟩
theorem put_leaf (h : AOK F r) (hc : ACt F C) (hn : ANrm F r) (hx : x ∈ F) {k v : Str} {b : UInt8} {tl : Byt} (hg : kget x.2.kids b = none) (hk : bl k = x.2.path ++ b :: tl) {g : Hd} (hgf : ∀ z, z ∈ F → z.1 ≠ g) (nb : Nat) :
    PutF F r C k v 1 (aset F x.1 { x.2 with kids := kput x.2.kids b g } ++ [(g, ⟨x.2.path ++ b :: tl, bs tl, some v, [], nb⟩)]) := by
  have h1 := h.leaf hx hg hgf (bs tl) (some v) nb x.2.nb
  have h2 := hc.leaf hx h hg (g := g) (pre := bs tl) (k := k) (v := v) (nb := nb) (nb' := x.2.nb) (by rw [bl_bs]; exact hk)
  rw [bl_bs] at h1 h2
  have hkl := kput_len (h.srt x hx) b g
  rw [hg] at hkl
  have hkl : (kput x.2.kids b g).length = x.2.kids.length + 1 := hkl
  refine ⟨h1, h2, nrm_app (nrm_set hn hx ?_) (.inl rfl), by rw [List.length_append, aset_len]; rfl, fun hl hz => lim_app (lim_set hl hx (m := { x.2 with kids := kput x.2.kids b g }) (hl x hx)) ?_⟩
  · rcases hn x hx with h3 | h3 | h3
    · exact .inr (.inr h3)
    · exact .inl h3
    · exact .inr (.inl (by show 2 ≤ (kput x.2.kids b g).length; omega))
  · show (x.2.path ++ b :: tl).length ≤ 600
    rw [← hk]
    have : (bl k).length = k.size := Array.length_toList
    omega
theorem put_split (h : AOK F r) (hc : ACt F C) (hn : ANrm F r) (hx : x ∈ F) (hr : x.1 ≠ r) {s q t : Byt} {b : UInt8} (hp : x.2.path = s ++ bl x.2.pre) (hpre : bl x.2.pre = q ++ b :: t) {k v : Str} (hk : bl k = s ++ q) {g : Hd} (hgf : ∀ z, z ∈ F → z.1 ≠ g) (nb : Nat) :
    PutF F r C k v 1 (aset F x.1 ⟨s ++ q, bs q, some v, [(b, g)], nb⟩ ++ [(g, { x.2 with pre := bs t })]) := by
  have h1 := h.split hx hr hp hpre (bl_bs q) (bl_bs t) hgf (some v) nb
  have h2 := (hc.split h hx hr hp hpre (g := g) (nb := nb) (qs := bs q) (ts := bs t)).2 k v hk
  have hlen : (s ++ q).length ≤ x.2.path.length := by rw [hp, hpre]; simp
  refine ⟨h1, h2, nrm_app (nrm_set hn hx (.inl rfl)) ((hn x hx).resolve_left hr), by rw [List.length_append, aset_len]; rfl, fun hl hz => lim_app (lim_set hl hx (Nat.le_trans hlen (hl x hx))) (hl x hx)⟩
theorem put_split2 (h : AOK F r) (hc : ACt F C) (hn : ANrm F r) (hx : x ∈ F) (hr : x.1 ≠ r) {s q t : Byt} {b b2 : UInt8} {tl : Byt} (hp : x.2.path = s ++ bl x.2.pre) (hpre : bl x.2.pre = q ++ b :: t) {k v : Str} (hk : bl k = s ++ q ++ b2 :: tl) (hb : b2 ≠ b) {g g2 : Hd} (hgf : ∀ z, z ∈ F → z.1 ≠ g) (nb nb2 : Nat)
    (hgf2 : ∀ z, z ∈ aset F x.1 ⟨s ++ q, bs q, none, [(b, g)], nb⟩ ++ [(g, { x.2 with pre := bs t })] → z.1 ≠ g2) :
    PutF F r C k v 2 (aset (aset F x.1 ⟨s ++ q, bs q, none, [(b, g)], nb⟩ ++ [(g, { x.2 with pre := bs t })]) x.1 ⟨s ++ q, bs q, none, kput [(b, g)] b2 g2, nb⟩ ++ [(g2, ⟨s ++ q ++ b2 :: tl, bs tl, some v, [], nb2⟩)]) := by
  have h1 := h.split hx hr hp hpre (bl_bs q) (bl_bs t) hgf none nb
  have h2 := (hc.split h hx hr hp hpre (g := g) (nb := nb) (qs := bs q) (ts := bs t)).1
  have hx2 : (x.1, (⟨s ++ q, bs q, none, [(b, g)], nb⟩ : AN)) ∈ aset F x.1 ⟨s ++ q, bs q, none, [(b, g)], nb⟩ ++ [(g, { x.2 with pre := bs t })] := List.mem_append_left _ ((mem_aset ⟨x.2, hx⟩).2 (.inl rfl))
  have h3 := h1.leaf hx2 (kget_one (g := g) hb) hgf2 (bs tl) (some v) nb2 nb
  have h4 := h2.leaf hx2 h1 (kget_one (g := g) hb) (g := g2) (pre := bs tl) (k := k) (v := v) (nb := nb2) (nb' := nb) (by rw [bl_bs]; exact hk)
  rw [bl_bs] at h3 h4
  have hlen : (s ++ q).length ≤ x.2.path.length := by rw [hp, hpre]; simp
  refine ⟨h3, h4, ?_, ?_, fun hl hz => ?_⟩
  · have h5 : ANrm (F ++ [(g, { x.2 with pre := bs t })]) r := nrm_app hn ((hn x hx).resolve_left hr)
    refine nrm_app (fun z hz => ?_) (.inl rfl)
    rcases (mem_aset ⟨_, hx2⟩).1 hz with rfl | ⟨z1, z2⟩
    · exact .inr (.inr (by show 2 ≤ (kput [(b, g)] b2 g2).length; rw [kput_two hb]; exact Nat.le_refl _))
    · rcases List.mem_append.1 z2 with z2 | z2
      · rcases (mem_aset ⟨x.2, hx⟩).1 z2 with rfl | ⟨_, z2⟩
        · exact absurd rfl z1
        · exact hn z z2
      · exact h5 z (List.mem_append_right _ z2)
  · rw [List.length_append, aset_len, List.length_append, aset_len]; rfl
  · refine lim_app (lim_set (lim_app (lim_set hl hx (m := ⟨s ++ q, bs q, none, [(b, g)], nb⟩) (Nat.le_trans hlen (hl x hx))) (m := { x.2 with pre := bs t }) (hl x hx)) hx2 (m := ⟨s ++ q, bs q, none, kput [(b, g)] b2 g2, nb⟩) (Nat.le_trans hlen (hl x hx))) ?_
    show (s ++ q ++ b2 :: tl).length ≤ 600
    rw [← hk]
    have : (bl k).length = k.size := Array.length_toList
    omega
end
end Go.Proofs.Ytmhlokomlngdmaa
namespace Go.Proofs.Ytmhlokomlngdmaa
/-- All nodes but one are as they must be. -/
def ANbut (F : AF) (r h : Hd) : Prop := ∀ x, x ∈ F → x.1 ≠ h → x.1 = r ∨ x.2.val.isSome = true ∨ 2 ≤ x.2.kids.length
section
variable {F F2 : AF} {r : Hd} {C C2 : Cont} {x : Hd × AN}
structure DelF (F : AF) (r : Hd) (C : Cont) (F' : AF) : Prop where
  ok : AOK F' r
  ct : ACt F' C
  nm : ANrm F' r
  lim : (∀ x, x ∈ F → x.2.path.length ≤ 600) → ∀ x, x ∈ F' → x.2.path.length ≤ 600
  nb : (F.map (·.2.nb)).Nodup → (F'.map (·.2.nb)).Nodup
theorem nb_adel {g : Hd} (hn : (F.map (·.2.nb)).Nodup) : ((adel F g).map (·.2.nb)).Nodup := hn.sublist (List.Sublist.map _ List.filter_sublist)
theorem lim_adel {N : Nat} {g : Hd} (hl : ∀ x, x ∈ F → x.2.path.length ≤ N) : ∀ z, z ∈ adel F g → z.2.path.length ≤ N := fun z hz => hl z (mem_adel.1 hz).2
/-- Nothing is joined. -/
theorem del_stay (h : AOK F r) (hc : ACt F C) (hb : ANbut F r x.1) (hx : x ∈ F) (hno : x.1 = r ∨ x.2.val.isSome = true ∨ x.2.kids.length ≠ 1) (hk : x.1 = r ∨ x.2.val.isSome = true ∨ 1 ≤ x.2.kids.length) : DelF F r C F :=
  ⟨h, hc, fun z hz => by
    by_cases he : z.1 = x.1
    · have := h.un hz hx he
      subst this
      rcases hno with h1 | h1 | h1
      · exact .inl h1
      · exact .inr (.inl h1)
      · rcases hk with h2 | h2 | h2
        · exact .inl h2
        · exact .inr (.inl h2)
        · exact .inr (.inr (by omega))
    · exact hb z hz he, fun h => h, fun h => h⟩
/-- A node takes its only child in. -/
theorem del_join (h : AOK F r) (hc : ACt F C) (hb : ANbut F r x.1) (hx : x ∈ F) (hr : x.1 ≠ r) (hv : x.2.val = none) {b : UInt8} {g : Hd} {m : AN} (hk : x.2.kids = [(b, g)]) (hm : (g, m) ∈ F) :
    DelF F r C (adel (aset F x.1 { m with pre := x.2.pre ++ bs [b] ++ m.pre }) g) := by
  have hps : bl (x.2.pre ++ bs [b] ++ m.pre) = bl x.2.pre ++ b :: bl m.pre := by rw [bl_app, bl_app, List.append_assoc]; rfl
  obtain ⟨m', hm', hmp⟩ := h.dn x hx (b, g) (by rw [hk]; simp)
  have he := h.un hm hm' rfl
  injection he with _ he
  subst he
  have hgx : g ≠ x.1 := fun e => by
    have h1 := h.un hm hx e
    have h2 := congrArg (fun z : Hd × AN => z.2.path.length) h1
    simp only at h2
    rw [hmp] at h2
    simp at h2
  have hgr : g ≠ r := fun e => by
    have h1 := h.root_pre hm e
    simp only at h1
    rw [hmp] at h1
    simp at h1
  refine ⟨h.join hx hr hk hm hps, hc.join h hx hv hk hm, fun z hz => ?_, fun hl => lim_adel (lim_set hl hx (hl _ hm)), fun hn => ?_⟩
  · obtain ⟨z1, z2⟩ := mem_adel.1 hz
    rcases (mem_aset ⟨x.2, hx⟩).1 z2 with rfl | ⟨z3, z4⟩
    · rcases hb _ hm hgx with h1 | h1
      · exact absurd h1 hgr
      · exact .inr h1
    · exact hb z z4 z3
  · have hnd : ((adel (aset F x.1 { m with pre := x.2.pre ++ bs [b] ++ m.pre }) g).map (·.1)).Nodup := by
      refine List.Nodup.sublist (List.Sublist.map _ List.filter_sublist) ?_
      rw [aset_fst]; exact h.nd
    refine nodup_iff_inj (nodup_of_map hnd) fun y z hy hz he => ?_
    obtain ⟨y1, y2⟩ := mem_adel.1 hy
    obtain ⟨z1, z2⟩ := mem_adel.1 hz
    rcases (mem_aset ⟨x.2, hx⟩).1 y2 with rfl | ⟨y3, y4⟩ <;> rcases (mem_aset ⟨x.2, hx⟩).1 z2 with rfl | ⟨z3, z4⟩
    · rfl
    · exact absurd (congrArg (·.1) (nodup_inj hn z4 hm he.symm)) z1
    · exact absurd (congrArg (·.1) (nodup_inj hn y4 hm he)) y1
    · exact nodup_inj hn y4 z4 he
/-- A value goes. -/
theorem del_val (h : AOK F r) (hc : ACt F C) (hn : ANrm F r) (hx : x ∈ F) {k : Str} (hk : bl k = x.2.path) :
    AOK (aset F x.1 { x.2 with val := none }) r ∧ ACt (aset F x.1 { x.2 with val := none }) (cdel C k) ∧ ANbut (aset F x.1 { x.2 with val := none }) r x.1 :=
  ⟨h.setVal hx none, hc.delVal h hx hk, fun z hz he => by
    rcases (mem_aset ⟨x.2, hx⟩).1 hz with rfl | ⟨_, hz⟩
    · exact absurd rfl he
    · exact hn z hz⟩
/-- A leaf without a value goes. -/
theorem del_leaf (h : AOK F r) (hc : ACt F C) (hb : ANbut F r x.1) (hx : x ∈ F) (hk : x.2.kids = []) (hv : x.2.val = none) {p : Hd × AN} (hp : p ∈ F) {b : UInt8} (hbx : (b, x.1) ∈ p.2.kids) :
    AOK (adel (aset F p.1 { p.2 with kids := kdel p.2.kids b }) x.1) r ∧ ACt (adel (aset F p.1 { p.2 with kids := kdel p.2.kids b }) x.1) C ∧ ANbut (adel (aset F p.1 { p.2 with kids := kdel p.2.kids b }) x.1) r p.1 ∧
      (p.1, { p.2 with kids := kdel p.2.kids b }) ∈ adel (aset F p.1 { p.2 with kids := kdel p.2.kids b }) x.1 ∧ (p.1 = r ∨ p.2.val.isSome = true ∨ 1 ≤ (kdel p.2.kids b).length) := by
  have hpx : p.1 ≠ x.1 := fun e => by
    have := h.un hp hx e
    subst this
    rw [hk] at hbx
    cases hbx
  have hl := kdel_len (h.srt p hp) b
  have hg : kget p.2.kids b = some x.1 := (kget_iff (h.srt p hp)).2 hbx
  rw [hg] at hl
  have hl : (kdel p.2.kids b).length = p.2.kids.length - 1 := hl
  refine ⟨h.dropLeaf hp hx hbx hk p.2.nb, hc.dropLeaf h hp hx hbx hv p.2.nb, fun z hz he => ?_, mem_adel.2 ⟨hpx, (mem_aset ⟨p.2, hp⟩).2 (.inl rfl)⟩, ?_⟩
  · obtain ⟨z1, z2⟩ := mem_adel.1 hz
    rcases (mem_aset ⟨p.2, hp⟩).1 z2 with rfl | ⟨_, z4⟩
    · exact absurd rfl he
    · exact hb z z4 z1
  · rcases hb p hp hpx with h1 | h1 | h1
    · exact .inl h1
    · exact .inr (.inl h1)
    · exact .inr (.inr (by omega))
end
end Go.Proofs.Ytmhlokomlngdmaa
