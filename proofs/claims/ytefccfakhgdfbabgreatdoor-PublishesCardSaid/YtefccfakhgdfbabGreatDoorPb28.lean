/-
  tiles.Open: a publisher over a store. Conditions: bounds on calls, files, indices, the key.
-/
import Derived.Test.YtefccfakhgdfbabGreatDoorPb20
import Derived.Test.YtefccfakhgdfbabGreatDoorPb22
import Derived.Test.YtefccfakhgdfbabGreatDoorPb27
import Derived.Test.YtefccfakhgdfbabGreatDoorPb19
import Derived.Test.YtefccfakhgdfbabGreatDoorPb13
import Derived.Deep.Cut
import Derived.Handy
set_option linter.unusedVariables false
set_option linter.unusedSimpArgs false
section
namespace Go.Proofs.YtefccfakhgdfbabGreatDoor
open Go.RowKit
theorem neq_hash (w : World) (a b : Hsh) : Sem.run Tryz.prog (binOp .neq 109 (.agg (h8 a)) (.agg (h8 b))) w = .ok (Value.bool (!(some a == some b))) w := by
  rw [run_neq_struct, eqn]
  rfl
/-- The publisher that a call has made. -/
def Fresh0 (w : World) (gd : Nat) (key : ByteArray) (es : List (List UInt8)) (g : Nat) (w' : World) : Prop :=
  ∃ ve vl vs, LogIs w' g gd ve vl (.slice none 0 0) vs ⟨key, es, levels es, [], false⟩ ∧ w.heap.size ≤ g ∧ ∀ k, LogS g ve vl (.slice none 0 0) vs k → w.heap.size ≤ k
def startPost (w : World) (gd : Nat) (v : Value) (d : Dk) (key : ByteArray) (f : Nat → Addr) (B : Nat) (e : Ending) (w' : World) : Prop :=
  ∃ d', DiskAt w' gd v d' ∧ Fr (· = gd) w w' ∧
    ((∃ q m r p, Hurt B d d' ∧ e = .returned (.tuple #[.pointer none, .iface 153 (.pointer (some ⟨r, 0, none⟩))]) ∧ w.heap.size ≤ q ∧ w.heap.size ≤ r ∧ w'.heap[q]? = some (.cells #[.int .i64 m] 366 (0, 0)) ∧
        w'.heap[r]? = some (.cells #[.string p, .iface 152 (.pointer (some ⟨q, 0, none⟩))] 155 (0, 0))) ∨
     (Calm B d d' ∧ OpensTo d.files key (.bad 3 ⟨#[]⟩) ∧ e = .returned (.tuple #[.pointer none, .iface 338 (.pointer (some (f 2)))])) ∨
     (Calm B d d' ∧ OpensTo d.files key (.bad 5 ⟨#[]⟩) ∧ e = .returned (.tuple #[.pointer none, .iface 338 (.pointer (some (f 4)))])) ∨
     (∃ p r, Calm B d d' ∧ OpensTo d.files key (.bad 6 p) ∧ e = .returned (.tuple #[.pointer none, .iface 153 (.pointer (some ⟨r, 0, none⟩))]) ∧ w.heap.size ≤ r ∧
        w'.heap[r]? = some (.cells #[.string p, .iface 338 (.pointer (some (f 5)))] 155 (0, 0))) ∨
     (∃ es n g, Calm B d d' ∧ OpensTo d.files key (.good es n) ∧ e = .returned (.tuple #[.pointer (some ⟨g, 0, none⟩), .nilIface]) ∧ Fresh0 w gd key es g w'))
theorem new_log (w : World) (gd : Nat) (key : ByteArray) : LogIs (w.alloc (.cells #[.iface 25 (.pointer (some ⟨gd, 0, none⟩)), .string key, .slice none 0 0, .slice none 0 0, .slice none 0 0, .bool false] 138)) w.heap.size gd (.slice none 0 0) (.slice none 0 0) (.slice none 0 0) [] ⟨key, [], [], [], false⟩ where
  cells := heap_alloc_new w _
  ents := ⟨[], World.ownsRow_nil _ _ _ _, fun j u l hu => by simp at hu⟩
  rows := World.ownsRow_nil _ _ _ _
  each := fun j v r hv => by simp at hv
  apart := fun i j a b k ha => by simp at ha
  puts := World.ownsRow_nil _ _ _ _
theorem new_logS {g k : Nat} (h : LogS g (.slice none 0 0) (.slice none 0 0) (.slice none 0 0) [] k) : k = g := by
  rcases h with h | h | h | h | ⟨v, h, _⟩
  · exact h
  · simp [Value.ownBlock] at h
  · simp [Value.ownBlock] at h
  · simp [Value.ownBlock] at h
  · simp at h
theorem eql_nilD (w : World) (x : Value) : (binOp .eql 134 (.iface 25 x) .nilIface).run Tryz.prog w = .ok (.bool false) w := by
  have h : ∀ d : Nat, (Op.equalIn (d + 1) 134 (.iface 25 x) .nilIface).run Tryz.prog w = .ok false w := fun d => by simp [Op.equalIn, run_underlying Tryz.underlying134]
  simp only [binOp]
  simp [Op.equal, Op.maxDepth, h 9999]
theorem Lkd.trans {w w1 w2 : World} {g gd : Nat} {v ve vl vp ve1 ve2 : Value} {vs : List Value} {L : Lg} {d1 d2 : Dk} {es1 es2 : List (List UInt8)} (h : Lkd w g gd v ve vl vp vs L ve1 d1 es1 w1) (k : Lkd w1 g gd v ve1 vl vp vs { L with entries := es1 } ve2 d2 es2 w2) : Lkd w g gd v ve vl vp vs L ve2 d2 es2 w2 :=
  ⟨k.disk, k.log, Fr.sub h.fr k.fr (lks h.sub), h.sub.trans k.sub h.fr.size⟩
theorem below_drew' {B : Nat} {w w' : World} (h : Below B w w') : Below B w w'.drew := h.drew
/-- Of a publisher that a call has made, seen from where the call began. -/
theorem lk_out {w w1 w2 : World} {g gd : Nat} {v ve : Value} {L : Lg} {d1 : Dk} {es1 : List (List UInt8)} (h : Lkd w1 g gd v (.slice none 0 0) (.slice none 0 0) (.slice none 0 0) [] L ve d1 es1 w2) (hg : g = w.heap.size) (hb : Below w.heap.size w w1) :
    Fr (· = gd) w w2 ∧ Sub w (· = gd) (fun k => k = gd ∨ LogS g ve (.slice none 0 0) (.slice none 0 0) [] k) := by
  refine ⟨(Fr.ofBelow hb : Fr (· = gd) w w1).step h.fr fun i hi hk => ?_, fun k hk => ?_⟩
  · rcases hk with hk | hk
    · exact hk
    · have := new_logS hk
      omega
  · rcases hk with hk | hk
    · exact .inl hk
    · rcases h.sub k hk with h1 | h1
      · exact .inr (by have := new_logS h1; omega)
      · exact .inr (Nat.le_trans hb.size h1)
theorem levels_nil : levels [] = [] := by
  unfold levels
  rw [show nLev ([] : List (List UInt8)).length = 0 by rw [nLev]; rfl]
  rfl
/-- What Get hands back of the checkpoint. -/
def GotCp (d : Dk) (w' : World) (a : Option Addr) (n c : Nat) : Prop := (a = none ∧ getF d.files (sOf kCp) = none) ∨ ∃ s b, a = some ⟨b, 0, none⟩ ∧ n = s.size ∧ getF d.files (sOf kCp) = some s ∧ BytesAt w' (.slice (some ⟨b, 0, none⟩) n c) s.data.toList
theorem get_cp {w : World} {g : Nat} {v : Value} {d : Dk} (h : DiskAt w g v d) (hc : d.calls < 1099511627776) (hk : enterK d = 0) :
    Calls Tryz.prog 249 #[.pointer (some ⟨g, 0, none⟩), .string (sOf kCp)] w fun e w' => ∃ a n c, e = .returned (.tuple #[.slice a n c, .nilIface]) ∧ GotCp d w' a n c ∧ DiskAt w' g v (enterD d) ∧ Fr (· = g) w w' := by
  cases hg : getF d.files (sOf kCp) with
  | none =>
    refine (get_miss h hc hk hg).mono ?_
    rintro e w' ⟨rfl, h1, h2⟩
    exact ⟨none, 0, 0, rfl, .inl ⟨rfl, hg⟩, h1, h2⟩
  | some s =>
    refine (get_hit h hc hk hg).mono ?_
    rintro e w' ⟨b, c, rfl, h0, h1, h2⟩
    exact ⟨some ⟨b, 0, none⟩, s.size, c, rfl, .inr ⟨s, b, rfl, rfl, hg, h0.at⟩, h1, h2⟩
theorem h9_zip (y : Hsh) : Array.foldl (fun (cs : Array Value) (x : Value × Nat) => cs.setIfInBounds (1 + x.snd) x.fst) #[.int .i64 0, .int .u8 0, .int .u8 0, .int .u8 0, .int .u8 0, .int .u8 0, .int .u8 0, .int .u8 0, .int .u8 0] (h8 y).zipIdx 0 8 = trC 0 y := by
  rw [h8_lit]
  simp
section
attribute [local go_sem] h9_zip h8_0 h8_1 h8_2 h8_3 h8_4 h8_5 h8_6 h8_7 h8_fold h8_size
set_option maxRecDepth 100000 in
set_option maxHeartbeats 4000000 in
theorem topen_any (f : Nat → Addr) (w : World) (gd : Nat) (v : Value) (d : Dk) (key : ByteArray) (hD : DiskAt w gd v d) (N : Nat) (hE : EnvS f (· = gd) w) (hN : FewB d.files N) (hN2 : N ≤ 262144) (hc : d.calls < 900000000000) (hsz : ∀ b ∈ d.files, b.2.size ≤ 1048576) (hkey : key.size ≤ 1048600) :
    Calls Tryz.prog 36 #[.iface 25 (.pointer (some ⟨gd, 0, none⟩)), .string key] w (startPost w gd v d key f (8 * N + 16)) := by
  have HE := Lib.hid hE
  have HN := Lib.hid hN
  have HZ := Lib.hid hsz
  have hgd := hD.lt
  have hne := eql_nilD w (.pointer (some ⟨gd, 0, none⟩))
  obtain ⟨g, hgw⟩ : ∃ g, g = w.heap.size := ⟨_, rfl⟩
  obtain ⟨w1, hw1⟩ : ∃ w1, w1 = w.alloc (.cells #[.iface 25 (.pointer (some ⟨gd, 0, none⟩)), .string key, .slice none 0 0, .slice none 0 0, .slice none 0 0, .bool false] 138) := ⟨_, rfl⟩
  have hb1 : Below w.heap.size w w1 := by rw [hw1]; exact below_alloc _ _
  have hL0 : Lkd w1 g gd v (.slice none 0 0) (.slice none 0 0) (.slice none 0 0) [] ⟨key, [], [], [], false⟩ (.slice none 0 0) d [] w1 :=
    ⟨hD.below hb1, by rw [hw1, hgw]; exact new_log w gd key, Fr.refl _ _, Sub.refl _ _⟩
  have HL0 := Lib.hid hL0
  have HW1 := Lib.hid hw1
  have HB1 := Lib.hid hb1
  have HGW := Lib.hid hgw
  have hcl : d.calls < 1099511627776 := by omega
  clear hD hE hN hsz hL0
  rcases Nat.eq_zero_or_pos (enterK d) with h0 | h0
  · go_enter Tryz.func36, Tryz.ntmps36
    go_upto_region 4 with fail
    rw [← hw1, ← hgw]
    clear hw1 hgw hb1
    go_upto_region 8 with (first
      | (go_at_call 249; refine (get_cp HL0.out.disk hcl h0).mono ?_; rintro e w2 ⟨a, n, c, rfl, hgot, hd2, hf2⟩; have HL2 := Lib.hid (HL0.out.look hd2 hf2); have HGOT := Lib.hid hgot; have hn2 := neq_nils w2; clear hgot hd2 hf2)
      | (go_at_call 66; refine (sum_any _ [] _ ⟨[], rfl, ⟨none, 0, rfl, Nat.le_refl _, fun j x hx => by simp at hx⟩, fun j u l hu _ => by simp at hu⟩ (by simp) (by simp)).mono ?_; rintro e w3 ⟨rfl, hb3⟩; have HL3 := Lib.hid (HL2.out.below hb3); have HB3 := Lib.hid hb3; clear hb3)
      | (refine wpList_storeT rfl _ _ rfl w3.heap.size 0 (hash []) rfl rfl 0 zero8 (heap_alloc_new w3 _) ?_))
    obtain ⟨w4, hw4⟩ : ∃ w4, w4 = (w3.alloc (.cells #[.int .i64 0, .int .u8 0, .int .u8 0, .int .u8 0, .int .u8 0, .int .u8 0, .int .u8 0, .int .u8 0, .int .u8 0] 111)).setRow w3.heap.size (trC 0 (hash [])) := ⟨_, rfl⟩
    obtain ⟨g9, hg9⟩ : ∃ g9, g9 = w3.heap.size := ⟨_, rfl⟩
    rw [← hw4, ← hg9]
    have hb4 : Below w3.heap.size w3 w4 := by rw [hw4]; exact below_setRow (below_alloc _ _) (Nat.le_refl _) _
    have ht4 : TrAt w4 g9 0 (hash []) := by
      rw [hw4, hg9]
      exact TrAt.set (show TrAt (w3.alloc (.cells (trC 0 zero8) 111)) w3.heap.size 0 zero8 from heap_alloc_new w3 _) 0 (hash [])
    have HL4 := Lib.hid (HL3.out.below hb4)
    have HT4 := Lib.hid ht4
    have HB4 := Lib.hid hb4
    have hq4 := neq_bnil w4 a n c
    have HC1 := Lib.hid (calm_enter h0)
    have HG9 := Lib.hid hg9
    clear hw4 hg9 hb4 ht4
    simp only [Act.put]
    go_upto_if 35 with fail
    go_cut [] from 36 to 45 (fun wx => ∃ (n : Nat) (root : Hsh), Aside (openHead d.files key = some (n, root)) ∧ n < 9223372036854775808 ∧ Aside (TrAt wx g9 n root) ∧ Aside (Lkd w1 g gd v (.slice none 0 0) (.slice none 0 0) (.slice none 0 0) [] ⟨key, [], [], [], false⟩ (.slice none 0 0) (enterD d) [] wx))
    case first =>
      rcases HGOT.out with ⟨rfl, hget⟩ | ⟨s, b, rfl, rfl, hget, hby⟩
      · have HG := Lib.hid hget
        clear hget
        go_wp2_with fail
        go_meet
        exact ⟨0, hash [], by show openHead _ _ = _; unfold openHead; rw [HG.out], by decide, HT4.out, HL4.out⟩
      · have hs20 : s.size ≤ 1048576 := HZ.out _ (getF_some hget)
        have h29 : w2.heap.size ≤ w3.heap.size := HB3.out.size
        have B24 := HB3.out.trans (HB4.out.mono HB3.out.size)
        have hcv : Sem.run Tryz.prog (convert 94 9 (.slice (some ⟨b, 0, none⟩) s.size c)) w4 = .ok (.string s) w4 := by
          have h1 := run_bs (hby.below B24)
          rw [show (ByteArray.mk s.data.toList.toArray) = s from sOf_self s] at h1
          exact h1
        have hlk := lk_out (w := w) HL4.out HGW.out HB1.out
        have hcon := fcheck_any s key w4 hs20 hkey (HE.out.step hlk.1 hlk.2).num
        obtain ⟨q, hq⟩ : ∃ q, q = checkGo s.data.toList key.data.toList := ⟨_, rfl⟩
        rw [← hq] at hcon
        have hsnd := checkGo_sound s.data.toList key.data.toList
        rw [← hq] at hsnd
        have hoh : openHead d.files key = if q.2.2 = true then some (q.1.toNat, q.2.1) else none := by unfold openHead; rw [hget, hq]
        obtain ⟨qn, qh, qb⟩ := q
        have HB24 := Lib.hid B24
        have HSND := Lib.hid hsnd
        have HOH := Lib.hid hoh
        have hg99 : w2.heap.size ≤ g9 := by have := HG9.out; omega
        have HG99 := Lib.hid hg99
        clear hget hby hlk hq hsnd hoh B24 hg99 h29
        cases qb with
        | false =>
          go_wp2_with (first
            | (go_at_call 67; refine hcon.mono ?_; rintro e w5 ⟨rfl, hb5⟩; have HB5 := Lib.hid hb5; clear hb5)
            | (refine wpList_storeT rfl _ _ rfl g9 qn qh rfl rfl 0 (hash []) (HT4.out.below HB5.out) ?_; have s2 := (HE.out.step (lk_out (w := w) (HL2.out.below (below_setRow (HB24.out.trans (HB5.out.mono HB24.out.size)) HG99.out (trC qn qh))) HGW.out HB1.out).1 (lk_out (w := w) (HL2.out.below (below_setRow (HB24.out.trans (HB5.out.mono HB24.out.size)) HG99.out (trC qn qh))) HGW.out HB1.out).2).sents.cells.2.2.1; have b2 := cell_lt s2))
          go_region
          all_goals (
            go_wp2
            go_ret2
            have hLf := HL2.out.below (below_drew' (below_setRow (HB24.out.trans (HB5.out.mono HB24.out.size)) HG99.out (trC qn qh)))
            exact ⟨enterD d, hLf.disk, (lk_out (w := w) hLf HGW.out HB1.out).1, .inr (.inl ⟨HC1.out.more (by omega), .checkpoint HOH.out, rfl⟩)⟩)
        | true =>
          go_wp2_with (first
            | (go_at_call 67; refine hcon.mono ?_; rintro e w5 ⟨rfl, hb5⟩; have HB5 := Lib.hid hb5; clear hb5)
            | (refine wpList_storeT rfl _ _ rfl g9 qn qh rfl rfl 0 (hash []) (HT4.out.below HB5.out) ?_))
          go_meet
          obtain ⟨p1, p2, _⟩ := HSND.out.1 rfl
          have hqn : qn = (qn.toNat : Int) := by omega
          refine ⟨qn.toNat, qh, ?_, by omega, ?_, ?_⟩
          · show openHead _ _ = _
            rw [HOH.out]
            rfl
          · rw [← hqn]
            exact TrAt.set (HT4.out.below HB5.out) qn qh
          · exact HL2.out.below (below_setRow (HB24.out.trans (HB5.out.mono HB24.out.size)) HG99.out _)
    case rest =>
      obtain ⟨n0, root, HOH, hn0, HT5, HL5⟩ := hcut
      have ht9 := HT5.out.cells.1
      have hlk := lk_out (w := w) HL5.out HGW.out HB1.out
      have hld := load_any f wc g gd v (.slice none 0 0) (.slice none 0 0) (.slice none 0 0) [] (enterD d) ⟨key, [], [], [], false⟩ HL5.out.log HL5.out.disk n0 N (HE.out.step hlk.1 hlk.2) rfl hn0 (by rw [HC1.out.files]; exact HN.out) (by omega) (by have := HC1.out.calls; omega) (by rw [HC1.out.files]; exact HZ.out)
      have HLD := Lib.hid hld
      clear hlk hld
      go_wp2_with fail
      refine HLD.out.mono ?_
      rintro e w6 (⟨ve6, d6, es6, i6, q, m, r, hl6, hh6, rfl, hq, hr, hhq, hhr⟩ | ⟨ve6, d6, es6, i6, r, hl6, hc6, hp6, rfl, hr, hhr⟩ | ⟨ve6, d6, es6, hl6, hc6, hp6, rfl⟩)
      · have HL6 := Lib.hid (HL5.out.trans hl6)
        have HH6 := Lib.hid (HC1.out.hurt hh6)
        have HQ := Lib.hid hhq
        have HR := Lib.hid hhr
        have hn6 := neq_nil w6 153 (.pointer (some ⟨r, 0, none⟩))
        have hws : w.heap.size ≤ wc.heap.size := (lk_out (w := w) HL5.out HGW.out HB1.out).1.size
        clear hl6 hh6 hhq hhr
        go_wp2_with fail
        go_ret2
        exact ⟨d6, HL6.out.disk, (lk_out (w := w) HL6.out HGW.out HB1.out).1, .inl ⟨q, m, r, _, HH6.out.more (by omega), rfl, Nat.le_trans hws hq, Nat.le_trans hws hr, HQ.out, HR.out⟩⟩
      · have HL6 := Lib.hid (HL5.out.trans hl6)
        have HC6 := Lib.hid (HC1.out.trans hc6)
        have HP6 := Lib.hid hp6
        have HR := Lib.hid hhr
        have hn6 := neq_nil w6 153 (.pointer (some ⟨r, 0, none⟩))
        have hws : w.heap.size ≤ wc.heap.size := (lk_out (w := w) HL5.out HGW.out HB1.out).1.size
        clear hl6 hc6 hp6 hhr
        go_wp2_with fail
        go_ret2
        refine ⟨d6, HL6.out.disk, (lk_out (w := w) HL6.out HGW.out HB1.out).1, .inr (.inr (.inr (.inl ⟨_, r, HC6.out.more (by omega), .tile (d := es6) HOH.out ?_, rfl, Nat.le_trans hws hr, HR.out⟩)))⟩
        have := HP6.out
        rw [HC1.out.files] at this
        exact this
      · have HL6 := Lib.hid (HL5.out.trans hl6)
        have HC6 := Lib.hid (HC1.out.trans hc6)
        have HP6 := Lib.hid (show loadP d.files n0 ((n0 + 3) / 4) 0 [] = (es6, none) by rw [← HC1.out.files]; exact hp6)
        have hn6 := neq_nils w6
        have HT6 := Lib.hid (show TrAt w6 g9 n0 root from hl6.fr.heap HT5.out fun hk => by
          rcases hk with hk | hk
          · have := HL2.out.disk.lt; have := HG9.out; have := HB3.out.size; omega
          · have := new_logS hk; have h2 := lt_of_heap HL2.out.log.cells; have := HG9.out; have := HB3.out.size; omega)
        clear hl6 hc6 hp6
        have hd6 := HL6.out.log.heads
        have c62 := hd6.1.2.2.1
        obtain ⟨vs6, hrow6, _⟩ := HL6.out.log.ents
        obtain ⟨a6, cp6, rfl⟩ := own_any hrow6
        clear hrow6 hd6
        obtain ⟨_, k1, k2, k3, k4, k5, k6, k7, k8⟩ := HT6.out.cells
        have htk : Taken d.files es6 := by
          have h1 := Taken.load (l := d.files) (n := n0) ((n0 + 3) / 4) 0 [] (Taken.nil _) (by simp) (by omega)
          rw [HP6.out] at h1
          exact h1
        have hfew := htk.few HN.out
        have hes : es6.length ≤ 1048576 := by omega
        have hes2 : ∀ e ∈ es6, e.length ≤ 9223372036854775807 := fun e he => by have := htk.short e he; omega
        have HTK := Lib.hid htk
        have HES := Lib.hid hes
        have HES2 := Lib.hid hes2
        have HB6 := Lib.hid (HL6.out.log.ents.at)
        have hg6 := lt_of_heap HL6.out.log.cells
        have hg96 := lt_of_heap HT6.out
        clear htk hfew hes hes2
        obtain ⟨cr, hcr⟩ : ∃ cr, cr = (some (rootOf es6) == some root) := ⟨_, rfl⟩
        have HCR := Lib.hid hcr
        clear hcr
        go_upto_region 16 with fail
        go_cut [60] from 53 to 60 (fun s60 wx => s60 = .bool (!cr) ∧ Aside (Lkd w1 g gd v (.slice none 0 0) (.slice none 0 0) (.slice none 0 0) [] ⟨key, [], [], [], false⟩ (.slice a6 es6.length cp6) d6 es6 wx))
        case first =>
          go_region_law (go_simp; go_at_call 69; refine (troot_any _ es6 _ (HB6.out.below (below_drew w6)) HES.out HES2.out).mono ?_; rintro e w7 ⟨rfl, hb7⟩; have hnq := eqn w7 (rootOf es6) root; rw [← HCR.out] at hnq; have HL7 := Lib.hid ((HL6.out.below (below_drew w6)).below hb7); have ⟨_, j1, j2, j3, j4, j5, j6, j7, j8⟩ := ((HT6.out.below (below_drew w6)).below hb7).cells; clear hb7)
          all_goals (
            go_wp2_with fail
            go_meet
            exact ⟨rfl, HL7.out⟩)
        case rest =>
          obtain ⟨rfl, HL7⟩ := hcut
          clear k1 k2 k3 k4 k5 k6 k7 k8 c62
          cases cr with
          | false =>
            have hner : rootOf es6 ≠ root := fun e => by have := HCR.out; rw [e] at this; simp at this
            have hlk := lk_out (w := w) HL7.out HGW.out HB1.out
            have s4 := (HE.out.step hlk.1 hlk.2).sents.cells.2.2.2.2.1
            have b4 := cell_lt s4
            have HNER := Lib.hid hner
            clear hner hlk
            go_wp2_with fail
            go_region
            all_goals (
              go_wp2
              go_ret2
              have hLf := HL7.out.below (below_drew wc)
              exact ⟨d6, hLf.disk, (lk_out (w := w) hLf HGW.out HB1.out).1, .inr (.inr (.inl ⟨HC6.out.more (by omega), .proof HOH.out HP6.out HNER.out, rfl⟩))⟩)
          | true =>
            have heqr : rootOf es6 = root := by have := HCR.out; simpa using this.symm
            have HEQR := Lib.hid heqr
            clear heqr
            go_wp2_with fail
            go_loopg [] (N + 2) (fun gg wr => ∃ ve1 d1 es1, Aside (Lkd w1 g gd v (.slice none 0 0) (.slice none 0 0) (.slice none 0 0) [] ⟨key, [], [], [], false⟩ ve1 d1 es1 wr) ∧ Aside (Calm (N + 2 + 4 * (es1.length / 4)) d d1) ∧ Aside (∀ r, Goes d.files es1 r → Goes d.files es6 r) ∧ Aside (Taken d.files es1) ∧ N + 1 - es1.length / 4 ≤ gg)
            case atStart => exact ⟨_, d6, es6, HL7.out, HC6.out.more (by omega), fun r h => h, HTK.out, by omega⟩
            case round =>
              obtain ⟨ve1, d1, es1, HL8, HC8, HG8, HT8, hgg⟩ := hrel
              have hfew1 := HT8.out.few HN.out
              have hlk := lk_out (w := w) HL8.out HGW.out HB1.out
              obtain ⟨bw, hbw⟩ : ∃ bw, bw = (furtherP d.files es1).2 := ⟨_, rfl⟩
              have hfr := further_any f wr g gd v ve1 (.slice none 0 0) (.slice none 0 0) [] d1 ⟨key, es1, [], [], false⟩ HL8.out.log HL8.out.disk (HE.out.step hlk.1 hlk.2) (by rw [HC8.out.files]; exact HT8.out) (by show es1.length < _; omega) (by have := HC8.out.calls; omega) (by rw [HC8.out.files]; exact HZ.out)
              unfold furPost at hfr
              rw [HC8.out.files] at hfr
              simp only [← hbw] at hfr
              have HFR := Lib.hid hfr
              have HBW := Lib.hid hbw
              have HFEW := Lib.hid hfew1
              have hws : w.heap.size ≤ wr.heap.size := hlk.1.size
              clear hfr hbw hfew1 hlk
              go_wp2_with fail
              refine HFR.out.mono ?_
              rintro e w8 (⟨d8, q, m, r, p, hl8, hh8, rfl, hq, hr, hhq, hhr⟩ | ⟨ve8, d8, hl8, hc8, rfl⟩)
              · have HL9 := Lib.hid (HL8.out.trans hl8)
                have HH9 := Lib.hid (HC8.out.hurt hh8)
                have HQ := Lib.hid hhq
                have HR := Lib.hid hhr
                have hn8 := neq_nil w8 153 (.pointer (some ⟨r, 0, none⟩))
                clear hl8 hh8 hhq hhr
                go_wp2_with fail
                go_ret2
                exact ⟨d8, HL9.out.disk, (lk_out (w := w) HL9.out HGW.out HB1.out).1, .inl ⟨q, m, r, p, HH9.out.more (by have := HFEW.out; omega), rfl, Nat.le_trans hws hq, Nat.le_trans hws hr, HQ.out, HR.out⟩⟩
              · have HL9 := Lib.hid (HL8.out.trans hl8)
                have HC9 := Lib.hid (HC8.out.trans hc8)
                have hn8 := neq_nils w8
                clear hl8 hc8
                cases bw with
                | true =>
                  go_wp2_with fail
                  go_roundg (N + 1 - (es1.length / 4 + 1))
                  case measure => have := HFEW.out; omega
                  case rel =>
                    have hlen8 : (es1 ++ (furtherP d.files es1).1).length = 4 * (es1.length / 4 + 1) := (HT8.out.further 4 (by omega)).2 HBW.out.symm
                    refine ⟨ve8, d8, es1 ++ (furtherP d.files es1).1, HL9.out, HC9.out.more (by omega), fun r h => HG8.out r (.more HBW.out.symm h), (HT8.out.further 4 (by omega)).1, by omega⟩
                | false =>
                  obtain ⟨es8, hes8⟩ : ∃ es8, es8 = es1 ++ (furtherP d.files es1).1 := ⟨_, rfl⟩
                  have hl9 : Lkd w1 g gd v (.slice none 0 0) (.slice none 0 0) (.slice none 0 0) [] ⟨key, [], [], [], false⟩ ve8 d8 es8 w8 := by rw [hes8]; exact HL9.out
                  have hgo : Goes d.files es6 es8 := by rw [hes8]; exact HG8.out _ (.stop HBW.out.symm)
                  have htk8 : Taken d.files es8 := HTK.out.goes hgo
                  have hfew8 := htk8.few HN.out
                  have hlen8 : es8.length ≤ 1048576 := by omega
                  have HLA := Lib.hid hl9
                  have HGO := Lib.hid hgo
                  have HTK8 := Lib.hid htk8
                  have hd8 := hl9.log.heads
                  have c82 := hd8.1.2.2.1
                  obtain ⟨vs8, hrow8, _⟩ := hl9.log.ents
                  obtain ⟨a8, cp8, rfl⟩ := own_any hrow8
                  obtain ⟨ln8, hln8⟩ : ∃ ln8, ln8 = es8.length := ⟨_, rfl⟩
                  have c82' : w8.cell? ⟨g, 2, none⟩ = some (.slice a8 ln8 cp8) := by rw [hln8]; exact c82
                  have hadr : 0 < ln8 → ∃ b8, a8 = some ⟨b8, 0, none⟩ := by
                    rcases hrow8.2 with ⟨e, h0⟩ | ⟨b, cap, cur, e, _⟩
                    · intro h
                      have h0' : es8.length = 0 := h0
                      omega
                    · simp at e; exact fun _ => ⟨b, e.1⟩
                  have HADR := Lib.hid hadr
                  have HLN8 := Lib.hid hln8
                  have hln8' : ln8 ≤ 1048576 := by omega
                  have HCA := Lib.hid (HC9.out.more (show N + 2 + 4 * (es1.length / 4) + 4 ≤ 8 * N + 16 by have := HFEW.out; omega))
                  clear hes8 hl9 hgo htk8 hfew8 hlen8 hd8 hrow8 hln8 hadr c82
                  go_wp2_with fail
                  go_loopg [77, 15] ln8 (fun gg s77 _ wr => ∃ i : Nat, i ≤ ln8 ∧ ln8 - i ≤ gg ∧ s77 = .int .i64 i ∧ ∃ vl1 vs1, Aside (LogIs wr g gd (.slice a8 es8.length cp8) vl1 (.slice none 0 0) vs1 ⟨key, es8, levels (es8.take i), [], false⟩) ∧ Aside (Fr (LogS g (.slice a8 es8.length cp8) (.slice none 0 0) (.slice none 0 0) []) w8 wr) ∧
                    Aside (Sub w8 (LogS g (.slice a8 es8.length cp8) (.slice none 0 0) (.slice none 0 0) []) (LogS g (.slice a8 es8.length cp8) vl1 (.slice none 0 0) vs1)) ∧ w8.heap.size ≤ wr.heap.size)
                  case atStart =>
                    refine ⟨0, by omega, by omega, rfl, .slice none 0 0, [], ?_, Fr.refl _ _, Sub.refl _ _, Nat.le_refl _⟩
                    show LogIs _ _ _ _ _ _ _ _
                    rw [List.take_zero, levels_nil]
                    exact HLA.out.log
                  case round =>
                    obtain ⟨i, hi, hgi, rfl, vl1, vs1, HLB, HFB, HSB, hsz8⟩ := hrel
                    by_cases hlt : i < ln8
                    · have hltz : (i : Int) < (ln8 : Int) := by omega
                      obtain ⟨b8, rfl⟩ := HADR.out (by omega)
                      obtain ⟨vsB, hrowB, hbB⟩ := HLB.out.ents
                      have hie : i < es8.length := by have := HLN8.out; omega
                      have hvl : vsB.length = es8.length := by simpa using hrowB.1
                      obtain ⟨u, hu⟩ : ∃ u, vsB[i]? = some u := ⟨_, List.getElem?_eq_getElem (by omega)⟩
                      obtain ⟨x, hx⟩ : ∃ x, es8[i]? = some x := ⟨_, List.getElem?_eq_getElem hie⟩
                      have k1 : wr.cell? ⟨b8, i, none⟩ = some u := by
                        have h1 := hrowB.cells (g := b8) rfl i u hu
                        rw [Addr.add_lit] at h1
                        simpa using h1
                      have hbx := (hbB i u x hu hx).at
                      have hxs : x.length ≤ 9223372036854775807 := by have := HTK8.out.short x (List.mem_of_getElem? hx); omega
                      have htake : es8.take (i + 1) = es8.take i ++ [x] := by rw [List.take_add_one, hx]; rfl
                      have hbd := levels_bd (es := es8.take i) (by rw [List.length_take]; have := HLN8.out; omega)
                      have HBX := Lib.hid hbx
                      have HTA := Lib.hid htake
                      have HBD := Lib.hid hbd
                      clear hrowB hbB hie hvl hu hx hbx htake hbd
                      go_wp2_with (first
                        | (go_at_call 72; refine (leaf_any u x _ HBX.out hxs).mono ?_; rintro e w9 ⟨rfl, hb9⟩; have HLC := Lib.hid (HLB.out.below hb9); have HB9 := Lib.hid hb9; clear hb9)
                        | (go_at_call 71; refine (grow_any w9 g gd _ _ _ _ _ HLC.out (leafH x) HBD.out.1 HBD.out.2).mono ?_; rintro e w10 ⟨rfl, vlC, vsC, hlC, hfC, hsC⟩; have HLD := Lib.hid hlC; have HFD := Lib.hid hfC; have HSD := Lib.hid hsC; clear hlC hfC hsC))
                      go_roundg (ln8 - (i + 1))
                      case measure => omega
                      case rel =>
                        refine ⟨i + 1, by omega, by omega, by go_num, vlC, vsC, ?_, Fr.sub (HFB.out.trans (Fr.ofBelow HB9.out)) (HFD.out.weak fun _ _ h => h.log) HSB.out, HSB.out.trans (sub_lv HSD.out) (by have := HB9.out.size; omega), by have := HB9.out.size; have := HFD.out.size; omega⟩
                        have h1 := HLD.out
                        rw [grow_leaf, ← HTA.out] at h1
                        exact h1
                    · have hltz : ¬ (i : Int) < (ln8 : Int) := by omega
                      have hii : i = ln8 := by omega
                      have HII := Lib.hid hii
                      clear hii
                      go_wp2_with fail
                      go_ret2
                      have hlk := lk_out (w := w) HLA.out HGW.out HB1.out
                      have hapart := HLA.out.log.apartDisk HLA.out.disk
                      have hge : ∀ k, LogS g (.slice a8 es8.length cp8) (.slice none 0 0) (.slice none 0 0) [] k → w.heap.size ≤ k := fun k hk => by
                        rcases hlk.2 k (.inr hk) with h1 | h1
                        · exact absurd (.inl h1) (hapart k hk)
                        · exact h1
                      refine ⟨d8, HLA.out.disk.fr HFB.out fun k hk hS => hapart k hS hk, hlk.1.step HFB.out fun k hk hS => absurd (hge k hS) (by omega), .inr (.inr (.inr (.inr ⟨es8, n0, g, HCA.out, .fine HOH.out HP6.out HEQR.out HGO.out, rfl, .slice a8 es8.length cp8, vl1, vs1, ?_, by have := HGW.out; omega, fun k hk => ?_⟩)))⟩
                      · have h1 := HLB.out
                        rw [List.take_of_length_le (by have := HLN8.out; have := HII.out; omega)] at h1
                        exact h1
                      · rcases HSB.out k hk with h1 | h1
                        · exact hge k h1
                        · exact Nat.le_trans hlk.1.size h1
  · have HH1 := Lib.hid (hurt_enter h0)
    go_enter Tryz.func36, Tryz.ntmps36
    go_upto_region 4 with fail
    rw [← hw1, ← hgw]
    clear hw1 hgw hb1
    go_wp2_with (first
      | (go_at_call 249; refine (get_err (p := sOf kCp) HL0.out.disk hcl h0).mono ?_; rintro e w2 ⟨q, m, rfl, hq, hh, hd2, hf2⟩; have HL2 := Lib.hid (HL0.out.look hd2 hf2); have HQ := Lib.hid hh; have HF2 := Lib.hid hf2; have hn2 := neq_nil w2 152 (.pointer (some ⟨q, 0, none⟩)); clear hh hd2 hf2)
      | (go_at_call 65; refine (at_any _ _ _ _).mono ?_; rintro e w3 ⟨u, rfl, ⟨r, rfl, hr, hhr⟩, hb3⟩; have HR := Lib.hid hhr; have HL3 := Lib.hid (HL2.out.below hb3); have HB3 := Lib.hid hb3; clear hhr hb3))
    go_ret2
    have h1w := HB1.out.size
    exact ⟨enterD d, HL3.out.disk, (lk_out (w := w) HL3.out HGW.out HB1.out).1, .inl ⟨q, m, r, sOf kCp, HH1.out.more (by omega), rfl, Nat.le_trans h1w hq, Nat.le_trans h1w (Nat.le_trans HF2.out.size hr), (HB3.out.block _ (lt_of_heap HQ.out)).trans HQ.out, HR.out⟩⟩
end
end Go.Proofs.YtefccfakhgdfbabGreatDoor
end
