/- A reader of the trie's law, at whose looks things are done: its state, its visit. -/
import Derived.Test.YtmhlokomlngdmaaArtLs
import Derived.Test.YtmhlokomlngdmaaArtTz
import Derived.Deep.CutBlock
import Derived.Deep.DeepCutAuto
namespace Go.Proofs.Ytmhlokomlngdmaa
open Go.RowKit
set_option maxRecDepth 100000 in
set_option maxHeartbeats 2000000 in
theorem plays12_J {w0 w : World} {t c0 : Nat} {C : Cont} (J : World → Cont → Prop) (hB0 : ∀ w C, J w C → Below w0.heap.size w0 w) (hbe : ∀ w w' C, J w C → Below w.heap.size w w' → J w' C)
    (hput : ∀ w C key v, J w C → key.size ≤ 600 → Calls Try.prog 23 #[.pointer (some ⟨t, 0, none⟩), .string key, .string v] w fun e w' => (∃ pv, e = .returned pv) ∧ J w' (putC C c0 key v))
    (hdel : ∀ w C key, J w C → key.size ≤ 600 → Calls Try.prog 25 #[.pointer (some ⟨t, 0, none⟩), .string key] w fun e w' => (∃ pv, e = .returned pv) ∧ J w' (cdel C key))
    (h : J w C) (s : Option Addr) (cap : Nat) (L : List A12) (hr : Acts w0 s L) (hsz : Sizes L) (hsm : Small L) (hlen : L.length ≤ 150) :
    Calls Try.prog 11 #[.pointer (some ⟨t, 0, none⟩), .slice s L.length cap] w fun e w' => e = .returned (.tuple #[]) ∧ J w' (play12 c0 C L) := by
  have hro := Lib.hid hr
  have hszs := Lib.hid hsz
  have hsms := Lib.hid hsm
  clear hr hsz hsm
  obtain ⟨len, hle⟩ : ∃ len, len = L.length := ⟨_, rfl⟩
  rw [← hle] at hlen ⊢
  replace hle := Lib.hid hle
  replace h := Lib.hid h
  replace hput := Lib.hid hput
  replace hdel := Lib.hid hdel
  replace hbe := Lib.hid hbe
  replace hB0 := Lib.hid hB0
  go_enter Try.func11, Try.ntmps11
  go_wp2_with fail
  go_loopg [4] len (fun gk i wr => ∃ (k : Nat), gk = len - k ∧ k ≤ len ∧ i = .int .i64 k ∧ J wr (play12 c0 C (L.take k)))
  case atStart => exact ⟨0, rfl, Nat.zero_le _, rfl, h.out⟩
  case round =>
    clear h
    obtain ⟨k, rfl, hk, rfl, hT⟩ := hrel
    by_cases hlt : k < len
    · obtain ⟨x, hx⟩ : ∃ x, L[k]? = some x := ⟨_, List.getElem?_eq_getElem (by have := hle.out; omega)⟩
      obtain ⟨b, off, rfl, hbw, hact⟩ := hro.out k x hx
      obtain ⟨hx0, hx1, hx2⟩ := hszs.out x (List.mem_of_getElem? hx)
      obtain ⟨hx3, hx4⟩ := hsms.out x (List.mem_of_getElem? hx)
      obtain ⟨g0, g1, g2, g3⟩ := hact.below (hB0.out _ _ hT)
      have hbw2 := block_lt_of_cell g0
      have o1 := Lib.hid hact.2.1
      have o2 := Lib.hid hact.2.2.1
      have hsn : Hid (play12 c0 C (L.take (k + 1)) = step12 c0 (play12 c0 C (L.take k)) x) := Lib.hid (by rw [take_next hx, play12_snoc])
      have hPu := Lib.hid fun W (hW : Below wr.heap.size wr W) => hput.out W _ x.2.1 x.2.2.1 (hbe.out _ _ _ hT hW) (by omega)
      have hDe := Lib.hid fun W (hW : Below wr.heap.size wr W) => hdel.out W _ x.2.1 (hbe.out _ _ _ hT hW) (by omega)
      obtain ⟨D, hD⟩ : ∃ D, D = play12 c0 C (L.take k) := ⟨_, rfl⟩
      rw [← hD] at hsn hPu hDe hT
      replace hT := Lib.hid hT
      obtain ⟨dd, x1, x2, aft⟩ := x
      simp only at g0 g1 g2 g3 hPu hDe hx0 o1 o2
      have hA2 : (k : Int) < (len : Int) := by omega
      have hA3 : (0 : Int) ≤ (k : Int) := by omega
      have hw1 : IntKind.i64.wrap ((k : Int) + 1) = (k : Int) + 1 := IntWalk.i64_in _ (by omega)
      clear hact hx hD hx1 hx2 hx3 hx4
      by_cases h0 : dd % 2 = 0
      · obtain ⟨m, rfl⟩ : ∃ m, dd = 2 * m := ⟨dd / 2, by omega⟩
        obtain ⟨f1, f2⟩ := even_facts m hx0
        have hst : Hid (step12 c0 D (2 * m, x1, x2, aft) = putC D c0 x1 x2) := Lib.hid (if_pos h0)
        replace h0 := Lib.hid h0
        go_upto_region 4 with fail
        go_region_held3 (fun W' => W'.cell? ⟨b, off + k * 4 + 1, none⟩ = some (.string x1) ∧ W'.cell? ⟨b, off + k * 4 + 2, none⟩ = some (.string x2)) (first | exact ⟨g1, g2⟩ | exact ⟨i1, i2⟩ | go_keep) (first
          | (go_at_call 23; refine (hPu.out _ (Below.refl _ _).drew).mono ?_; rintro z w5 ⟨⟨pv, rfl⟩, hT5⟩; have i1 := keep (hB0.out _ _ hT5) o1.out; have i2 := keep (hB0.out _ _ hT5) o2.out; replace hT5 := Lib.hid hT5))
        all_goals
          go_wp2_with fail
          go_roundg (len - (k + 1))
          case rel => exact ⟨k + 1, rfl, by omega, by go_num, by rw [hsn.out, hst.out]; exact hT5.out⟩
          case measure => omega
      · obtain ⟨m, rfl⟩ : ∃ m, dd = 2 * m + 1 := ⟨dd / 2, by omega⟩
        obtain ⟨f1, f2⟩ := odd_facts m hx0
        have hst : Hid (step12 c0 D (2 * m + 1, x1, x2, aft) = cdel D x1) := Lib.hid (if_neg h0)
        replace h0 := Lib.hid h0
        go_wp2_with fail
        refine (hDe.out _ (Below.refl _ _)).mono ?_
        rintro z w5 ⟨⟨pv, rfl⟩, hT5⟩
        replace hT5 := Lib.hid hT5
        go_wp2_with fail
        go_roundg (len - (k + 1))
        case rel => exact ⟨k + 1, rfl, by omega, by go_num, by rw [hsn.out, hst.out]; exact hT5.out⟩
        case measure => omega
    · obtain rfl : k = len := by omega
      have hLt : L.take k = L := List.take_of_length_le (by have := hle.out; omega)
      rw [hLt] at hT
      replace hT := Lib.hid hT
      go_wp2_with fail
      exact ⟨rfl, .tuple #[], by simp [results, Try.results11, go_sem], rfl, hT.out⟩
/-- What does not turn while the law reads. -/
structure VP where
  p : Nat
  t : Nat
  r : Hd
  a : Nat
  c0 : Nat
  NB : Nat
  DB : Nat
  TB : Nat
  bB : Nat
  bs : Option Addr
  bc : Nat
  B : List A12
structure VPok (w0 : World) (V : VP) : Prop where
  acts : Acts w0 V.bs V.B
  szs : Sizes V.B
  sml : Small V.B
  len : V.B.length ≤ 40
  cap : V.bc ≤ 9223372036854775807
  lc : V.B.length ≤ V.bc
  low : w0.heap.size ≤ V.NB ∧ w0.heap.size ≤ V.DB
  low2 : w0.heap.size ≤ V.TB ∧ V.bB < w0.heap.size
  ne : V.NB ≠ V.DB
/-- Between two of the law's statements, or two looks: a tree, n looks, d acts done. -/
structure LVI (w0 : World) (V : VP) (w : World) (T : TS) (C : Cont) (n d : Nat) : Prop where
  tr : AT w0 w T C
  ht : T.t = V.t
  hp : T.P.1 = V.p
  hr : T.r = V.r
  ha : T.d.A.a = V.a
  hi : T.i = 0
  hD : T.D.length = 1
  hf : T.free.length = V.c0
  nb : w.heap[V.NB]? = some (.cells #[.int .i64 n] 3)
  db : w.heap[V.DB]? = some (.cells #[.int .i64 d] 3)
  tb : w.heap[V.TB]? = some (.cells #[.pointer (some ⟨V.t, 0, none⟩)] 25)
  bb : w.heap[V.bB]? = some (.cells #[.slice V.bs V.B.length V.bc] 22)
  rol : T.ρ V.NB = 0 ∧ T.ρ V.DB = 0 ∧ T.ρ V.TB = 0 ∧ T.ρ V.bB = 0
section
variable {w0 w w' : World} {V : VP} {T T' : TS} {C C' : Cont} {n d : Nat}
theorem LVI.tev (h : LVI w0 V w T C n d) (hev : TEv w w' T T') (hA : AT w0 w' T' C') : LVI w0 V w' T' C' n d := by
  obtain ⟨k1, r1⟩ := hev.keep h.nb h.rol.1
  obtain ⟨k2, r2⟩ := hev.keep h.db h.rol.2.1
  obtain ⟨k3, r3⟩ := hev.keep h.tb h.rol.2.2.1
  obtain ⟨k4, r4⟩ := hev.keep h.bb h.rol.2.2.2
  exact ⟨hA, hev.t.trans h.ht, by rw [hev.P]; exact h.hp, hev.r.trans h.hr, hev.a.trans h.ha, hev.i.trans h.hi, hev.dl.trans h.hD, hev.fl.trans h.hf, k1, k2, k3, k4, ⟨r1, r2, r3, r4⟩⟩
theorem LVI.below (h : LVI w0 V w T C n d) (hb : Below w.heap.size w w') : LVI w0 V w' T C n d := h.tev (TEv.below h.tr.am hb) (h.tr.below hb)
theorem AT.wr {S : List Nat} (h : AT w0 w T C) (hu : Upd S w w') (hS : ∀ q, q ∈ S → w0.heap.size ≤ q ∧ T.ρ q = 0) : AT w0 w' T C := ⟨h.am.wr hu hS, h.ok, h.ct, h.nm, h.nb, h.sz, h.lim⟩
/-- Other blocks of the law's own are written. -/
theorem LVI.wr {S : List Nat} (h : LVI w0 V w T C n d) (hu : Upd S w w') (hS : ∀ q, q ∈ S → w0.heap.size ≤ q ∧ T.ρ q = 0) (h1 : V.NB ∉ S) (h2 : V.DB ∉ S) (h3 : V.TB ∉ S) (h4 : V.bB ∉ S) : LVI w0 V w' T C n d :=
  ⟨h.tr.wr hu hS, h.ht, h.hp, h.hr, h.ha, h.hi, h.hD, h.hf, hu.heap h.nb h1, hu.heap h.db h2, hu.heap h.tb h3, hu.heap h.bb h4, h.rol⟩
theorem LVI.setN (hV : VPok w0 V) (h : LVI w0 V w T C n d) : LVI w0 V (w.setCell ⟨V.NB, 0, none⟩ (.int .i64 ((n + 1 : Nat) : Int))) T C (n + 1) d ∧ Upd [V.NB] w (w.setCell ⟨V.NB, 0, none⟩ (.int .i64 ((n + 1 : Nat) : Int))) := by
  have hu : Upd [V.NB] w (w.setCell ⟨V.NB, 0, none⟩ (.int .i64 ((n + 1 : Nat) : Int))) := (Upd.refl _ _).setCell (p := ⟨V.NB, 0, none⟩) (by simp) _
  have e1 : V.TB ≠ V.NB := tag_ne h.tb h.nb (by decide)
  have e2 : V.bB ≠ V.NB := tag_ne h.bb h.nb (by decide)
  exact ⟨⟨h.tr.wr hu (fun q hq => by rw [List.mem_singleton.1 hq]; exact ⟨hV.low.1, h.rol.1⟩), h.ht, h.hp, h.hr, h.ha, h.hi, h.hD, h.hf, heap_set_same h.nb 0 _, hu.heap h.db (by simp [hV.ne.symm]), hu.heap h.tb (by simp [e1]), hu.heap h.bb (by simp [e2]), h.rol⟩, hu⟩
theorem LVI.setD (hV : VPok w0 V) (h : LVI w0 V w T C n d) : LVI w0 V (w.setCell ⟨V.DB, 0, none⟩ (.int .i64 ((d + 1 : Nat) : Int))) T C n (d + 1) ∧ Upd [V.DB] w (w.setCell ⟨V.DB, 0, none⟩ (.int .i64 ((d + 1 : Nat) : Int))) := by
  have hu : Upd [V.DB] w (w.setCell ⟨V.DB, 0, none⟩ (.int .i64 ((d + 1 : Nat) : Int))) := (Upd.refl _ _).setCell (p := ⟨V.DB, 0, none⟩) (by simp) _
  have e1 : V.TB ≠ V.DB := tag_ne h.tb h.db (by decide)
  have e2 : V.bB ≠ V.DB := tag_ne h.bb h.db (by decide)
  exact ⟨⟨h.tr.wr hu (fun q hq => by rw [List.mem_singleton.1 hq]; exact ⟨hV.low.2, h.rol.2.1⟩), h.ht, h.hp, h.hr, h.ha, h.hi, h.hD, h.hf, hu.heap h.nb (by simp [hV.ne]), heap_set_same h.db 0 _, hu.heap h.tb (by simp [e1]), hu.heap h.bb (by simp [e2]), h.rol⟩, hu⟩
/-- The tree, while acts are done. -/
def PJ (w0 w1 : World) (T : TS) (w : World) (C : Cont) : Prop := ∃ T', AT w0 w T' C ∧ TEv w1 w T T'
theorem PJ.put {w1 : World} (hi : T.i = 0) (hD : T.D.length = 1) (h : PJ w0 w1 T w C) (key v : Str) (hk : key.size ≤ 600) :
    Calls Try.prog 23 #[.pointer (some ⟨T.t, 0, none⟩), .string key, .string v] w fun e w' => (∃ pv, e = .returned pv) ∧ PJ w0 w1 T w' (putC C T.free.length key v) := by
  obtain ⟨T1, h, hev⟩ := h
  have ha := h.alone (hev.i.trans hi) (hev.dl.trans hD)
  have hf := hev.fl
  rw [← hev.t]
  refine (h.put key v hk (Nat.le_trans h.len_le.2 (by omega))).mono ?_
  rintro e w' ⟨F', m, hF, ⟨hm, rfl, T', hT, hev2, _⟩ | ⟨hm, rfl, hb⟩⟩
  · have hle : nodesN (cput C key v) ≤ T.free.length := by
      have := nodes_eq hF.ok hF.ct hF.nm
      have := hF.len
      omega
    unfold putC
    rw [if_pos hle]
    exact ⟨⟨_, rfl⟩, T', hT, hev.trans hev2⟩
  · have hle : ¬ nodesN (cput C key v) ≤ T.free.length := by
      have := nodes_eq hF.ok hF.ct hF.nm
      have := hF.len
      omega
    unfold putC
    rw [if_neg hle]
    exact ⟨⟨_, rfl⟩, T1, h.below hb, hev.trans (TEv.below h.am hb)⟩
theorem PJ.delete {w1 : World} (h : PJ w0 w1 T w C) (key : Str) (hk : key.size ≤ 600) :
    Calls Try.prog 25 #[.pointer (some ⟨T.t, 0, none⟩), .string key] w fun e w' => (∃ pv, e = .returned pv) ∧ PJ w0 w1 T w' (cdel C key) := by
  obtain ⟨T1, h, hev⟩ := h
  rw [← hev.t]
  refine (h.delete key hk).mono ?_
  rintro e w' (⟨hg, rfl, hb⟩ | ⟨v, hg, rfl, T', hT, hev2⟩)
  · rw [cdel_none hg h.ct.srt]
    exact ⟨⟨_, rfl⟩, T1, h.below hb, hev.trans (TEv.below h.am hb)⟩
  · exact ⟨⟨_, rfl⟩, T', hT, hev.trans hev2⟩
theorem PJ.plays (h : AT w0 w T C) (hi : T.i = 0) (hD : T.D.length = 1) (s : Option Addr) (cap : Nat) (L : List A12) (hr : Acts w0 s L) (hsz : Sizes L) (hsm : Small L) (hlen : L.length ≤ 150) :
    Calls Try.prog 11 #[.pointer (some ⟨T.t, 0, none⟩), .slice s L.length cap] w fun e w' => e = .returned (.tuple #[]) ∧ PJ w0 w T w' (play12 T.free.length C L) :=
  plays12_J (PJ w0 w T) (fun _ _ h => by obtain ⟨_, h, _⟩ := h; exact h.am.bw.ro.bel) (fun _ _ _ h hb => by obtain ⟨T1, h, hev⟩ := h; exact ⟨T1, h.below hb, hev.trans (TEv.below h.am hb)⟩)
    (fun _ _ key v h hk => h.put hi hD key v hk) (fun _ _ key h hk => h.delete key hk) ⟨T, h, TEv.refl h.am⟩ s cap L hr hsz hsm hlen
/-- What a visit did. -/
def VStep (V : VP) (w : World) (T : TS) (C : Cont) (n d : Nat) (w' : World) (T' : TS) (C' : Cont) (d' : Nat) : Prop :=
  (∃ w1, TEv w w1 T T' ∧ Upd [V.NB, V.DB] w1 w') ∧ d ≤ d' ∧ d' ≤ d + 1 ∧ (d' = d → T' = T ∧ C' = C) ∧ (V.B.length ≤ n → d' = d)
def VisEnd (w0 : World) (V : VP) (w : World) (T : TS) (C : Cont) (n d : Nat) (e : Ending) (w' : World) : Prop :=
  e = .returned (.tuple #[]) ∧ ∃ T' C' d', LVI w0 V w' T' C' (n + 1) d' ∧ VStep V w T C n d w' T' C' d'
def visV (V : VP) : Array Value := #[.pointer (some ⟨V.NB, 0, none⟩), .pointer (some ⟨V.bB, 0, none⟩), .pointer (some ⟨V.TB, 0, none⟩), .pointer (some ⟨V.DB, 0, none⟩)]
set_option maxRecDepth 100000 in
set_option maxHeartbeats 4000000 in
theorem vis_any (hV : VPok w0 V) (h : LVI w0 V w T C n d) (hn : n + 1 ≤ KM) (hdn : d ≤ n) : Calls Try.prog 15 #[.pointer (some ⟨V.NB, 0, none⟩), .pointer (some ⟨V.bB, 0, none⟩), .pointer (some ⟨V.TB, 0, none⟩), .pointer (some ⟨V.DB, 0, none⟩)] w (VisEnd w0 V w T C n d) := by
  unfold KM at hn
  have hV0 := Lib.hid hV
  have hh := Lib.hid h
  obtain ⟨m, hm⟩ : ∃ m, m = V.B.length := ⟨_, rfl⟩
  have hlen := hV.len
  have hlc := hV.lc
  have hcap := hV.cap
  have x0 : w.cell? ⟨V.NB, 0, none⟩ = some (.int .i64 n) := by rw [cell_of_heap h.nb]; rfl
  have x1 : w.cell? ⟨V.bB, 0, none⟩ = some (.slice V.bs m V.bc) := by rw [cell_of_heap h.bb, hm]; rfl
  have x2 : w.cell? ⟨V.TB, 0, none⟩ = some (.pointer (some ⟨V.t, 0, none⟩)) := by rw [cell_of_heap h.tb]; rfl
  have q0 := heap_lt h.nb
  have q1 := heap_lt h.bb
  have q2 := heap_lt h.tb
  rw [← hm] at hlen hlc
  replace hm := Lib.hid hm
  obtain ⟨p, t, r, a, c0, NB, DB, TB, bB, bs, bc, B⟩ := V
  simp only at hlen hlc hcap x0 x1 x2 q0 q1 q2 ⊢
  obtain ⟨ab, hab⟩ : ∃ ab : Bool, (ab = true ↔ (n < m ∧ ∃ x, B[n]? = some x ∧ x.1 < 2)) := by
    by_cases hp : n < m ∧ ∃ x, B[n]? = some x ∧ x.1 < 2
    · exact ⟨true, by simp [hp]⟩
    · exact ⟨false, by simp only [Bool.false_eq_true, false_iff]; exact hp⟩
  have hact : Hid (n < m → ∃ x b off, B[n]? = some x ∧ bs = some ⟨b, off, none⟩ ∧ b < w0.heap.size ∧ ACell w0 b (off + n * 4) x ∧ x.1 < 256) := Lib.hid fun hlt => by
    obtain ⟨x, hx⟩ : ∃ x, B[n]? = some x := ⟨_, List.getElem?_eq_getElem (by have := hm.out; simp only at this; omega)⟩
    obtain ⟨b, off, h1, h2, h3⟩ := hV0.out.acts n x hx
    exact ⟨x, b, off, hx, h1, h2, h3, (hV0.out.szs x (List.mem_of_getElem? hx)).1⟩
  have hbel : Hid (Below w0.heap.size w0 w) := Lib.hid hh.out.tr.am.bw.ro.bel
  replace hab := Lib.hid hab
  clear h hV
  go_enter Try.func15, Try.ntmps15
  go_upto_region 0 with fail
  go_cut [15] (fun v wz => v = .bool ab ∧ wz = w)
  case first =>
    by_cases hlt : n < m
    · obtain ⟨x, b, off, hx, rfl, hb, hc, hd⟩ := hact.out hlt
      have g0 := keep hbel.out hc.1
      have gq := block_lt_of_cell g0
      have hA2 : (n : Int) < (m : Int) := by omega
      have hA3 : (0 : Int) ≤ (n : Int) := by omega
      have hx' := Lib.hid hx
      replace hc := Lib.hid hc
      obtain ⟨dd, k1, v1, af⟩ := x
      simp only at g0 hd
      clear hx
      by_cases h2 : dd < 2
      · have h3 : (dd : Int) < 2 := by omega
        have : ab = true := hab.out.2 ⟨hlt, _, hx'.out, h2⟩
        subst this
        go_wp2_with fail
        go_meet
        exact ⟨by simp, rfl⟩
      · have h3 : ¬ (dd : Int) < 2 := by omega
        have : ab = false := by
          cases hb2 : ab with
          | false => rfl
          | true =>
            obtain ⟨_, y, hy, hy2⟩ := hab.out.1 hb2
            rw [hx'.out] at hy
            injection hy with hy
            subst hy
            exact absurd hy2 h2
        subst this
        go_wp2_with fail
        go_meet
        exact ⟨by simp, rfl⟩
    · have hA2 : ¬ (n : Int) < (m : Int) := by omega
      have : ab = false := by
        cases hb2 : ab with
        | false => rfl
        | true => exact absurd (hab.out.1 hb2).1 hlt
      subst this
      go_wp2_with fail
      go_meet
      exact ⟨by simp, rfl⟩
  case rest =>
    obtain ⟨rfl, hwc⟩ := hcut
    rw [hwc]
    clear hwc
    go_upto_if 15 with fail
    go_cut [] (fun wz => ∃ T' C' d', LVI w0 ⟨p, t, r, a, c0, NB, DB, TB, bB, bs, bc, B⟩ wz T' C' n d' ∧ VStep ⟨p, t, r, a, c0, NB, DB, TB, bB, bs, bc, B⟩ w T C n d wz T' C' d')
    case first =>
      cases ab with
      | false =>
        go_wp2_with fail
        go_meet
        exact ⟨T, C, d, hh.out, ⟨_, TEv.refl hh.out.tr.am, Upd.refl _ _⟩, Nat.le_refl _, Nat.le_succ _, fun _ => ⟨rfl, rfl⟩, fun _ => rfl⟩
      | true =>
        obtain ⟨hlt, y, hy, hy2⟩ := hab.out.1 rfl
        obtain ⟨x, b, off, hx, rfl, hb, hc, hd⟩ := hact.out hlt
        have hacts : Acts w0 (some ⟨b, off + n * 4, none⟩) [x] := fun k z hz => by
          cases k with
          | zero =>
            simp at hz
            subst hz
            exact ⟨b, off + n * 4, rfl, hb, by simpa using hc⟩
          | succ k => simp at hz
        have hmem := List.mem_of_getElem? hx
        have hPl : Hid (∀ W, Below w.heap.size w W → Calls Try.prog 11 #[.pointer (some ⟨t, 0, none⟩), .slice (some ⟨b, off + n * 4, none⟩) 1 (bc - n)] W fun e w' => e = .returned (.tuple #[]) ∧ ∃ T' C', LVI w0 ⟨p, t, r, a, c0, NB, DB, TB, bB, some ⟨b, off, none⟩, bc, B⟩ w' T' C' n d ∧ TEv w w' T T') := Lib.hid fun W hW => by
          have h1 := PJ.plays (hh.out.tr.below hW) hh.out.hi hh.out.hD (some ⟨b, off + n * 4, none⟩) (bc - n) [x] hacts (fun z hz => by rw [List.mem_singleton.1 hz]; exact hV0.out.szs x hmem) (fun z hz => by rw [List.mem_singleton.1 hz]; exact hV0.out.sml x hmem) (by simp)
          rw [show T.t = t from hh.out.ht] at h1
          refine h1.mono ?_
          rintro e w' ⟨he, T', hT, hev⟩
          exact ⟨he, T', _, (hh.out.below hW).tev hev hT, (TEv.below hh.out.tr.am hW).trans hev⟩
        have hA2 : (n : Int) < (m : Int) := by omega
        have hA3 : (0 : Int) ≤ (n : Int) := by omega
        have hw1 : IntKind.i64.wrap ((n : Int) + 1) = (n : Int) + 1 := IntWalk.i64_in _ (by omega)
        have hA4 : (n : Int) + 1 ≤ (bc : Int) := by omega
        have hA5 : (0 : Int) ≤ (n : Int) + 1 := by omega
        have hsl : ∀ W, (Instr.slice 22 (.slice (some ⟨b, off, none⟩) m bc) (some (.int .i64 (n : Nat))) (some (.int .i64 ((n : Int) + 1))) none).run Try.prog W = .ok (.slice (some ⟨b, off + n * 4, none⟩) 1 (bc - n)) W := fun W => by
          have hne : ¬ bc = n := by omega
          have hk := run_slice_lh (P := Try.prog) (t := 22) (a := some ⟨b, off, none⟩) (len := m) (cap := bc) (w := W) (ht := Try.underlying22) (kl := .i64) (kh := .i64) (l := (n : Int)) (h := (n : Int) + 1) (h0 := hA3) (h1 := by omega) (h2 := hA4)
          rw [hk]
          simp [go_sem, Try.underlying22, sliced, hne]
          try omega
        replace hc := Lib.hid hc
        replace hx := Lib.hid hx
        replace hmem := Lib.hid hmem
        replace hacts := Lib.hid hacts
        replace hy := Lib.hid hy
        clear hb hd hy2
        go_upto_region 1 with fail
        go_region_held3 (fun W' => W'.cell? ⟨TB, 0, none⟩ = some (.pointer (some ⟨t, 0, none⟩)) ∧ W'.cell? ⟨bB, 0, none⟩ = some (.slice (some ⟨b, off, none⟩) m bc) ∧ W'.cell? ⟨NB, 0, none⟩ = some (.int .i64 n)) (first | exact ⟨x2, x1, x0⟩ | exact ⟨i2, i1, i0⟩ | go_keep) (first
          | (go_at_call 11; refine (hPl.out _ bel_dw).mono ?_; rintro z w2 ⟨rfl, T', C', hI, hev⟩; have i0 : w2.cell? ⟨NB, 0, none⟩ = some (.int .i64 n) := (by rw [cell_of_heap hI.nb]; rfl); have i1 : w2.cell? ⟨bB, 0, none⟩ = some (.slice (some ⟨b, off, none⟩) m bc) := (by rw [cell_of_heap hI.bb, hm.out]; rfl); have i2 : w2.cell? ⟨TB, 0, none⟩ = some (.pointer (some ⟨t, 0, none⟩)) := (by rw [cell_of_heap hI.tb]; rfl); have j0 : w2.cell? ⟨DB, 0, none⟩ = some (.int .i64 d) := (by rw [cell_of_heap hI.db]; rfl); have jq := heap_lt hI.db; have jf := frozen_of_heap hI.db 0; replace hI := Lib.hid hI; replace hev := Lib.hid hev))
        all_goals
          have hwd : IntKind.i64.wrap ((d : Int) + 1) = (d : Int) + 1 := IntWalk.i64_in _ (by omega)
          have hset := Lib.hid (LVI.setD hV0.out hI.out)
          go_wp2_with fail
          go_meet
          exact ⟨T', C', d + 1, hset.out.1, ⟨w2, hev.out, hset.out.2.mono (by simp)⟩, Nat.le_succ _, Nat.le_refl _, fun h => by omega, fun h => by have := hm.out; simp only at this h; omega⟩
    case rest =>
      obtain ⟨T', C', d', hI, hS⟩ := hcut
      have y0 : wc.cell? ⟨NB, 0, none⟩ = some (.int .i64 n) := by rw [cell_of_heap hI.nb]; rfl
      have yq := heap_lt hI.nb
      have yf := frozen_of_heap hI.nb 0
      have hw1 : IntKind.i64.wrap ((n : Int) + 1) = (n : Int) + 1 := IntWalk.i64_in _ (by omega)
      have hset := Lib.hid (LVI.setN hV0.out hI)
      replace hI := Lib.hid hI
      replace hS := Lib.hid hS
      clear x0 x1 x2 q0 q1 q2 hact
      go_wp2_with fail
      refine ⟨rfl, .tuple #[], by simp [results, Try.results15, go_sem], rfl, T', C', d', hset.out.1, ?_⟩
      obtain ⟨⟨wa, h1, h2⟩, h3⟩ := hS.out
      exact ⟨⟨wa, h1, h2.trans (hset.out.2.mono (by simp))⟩, h3⟩
end
end Go.Proofs.Ytmhlokomlngdmaa
