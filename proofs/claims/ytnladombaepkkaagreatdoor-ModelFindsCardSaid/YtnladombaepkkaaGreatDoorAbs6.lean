/- The abstract machine's operations are the model's: all that leave the heap as it is. Conditions: none. -/
import Derived.Test.YtnladombaepkkaaGreatDoorAbs5b
import Derived.Laws.BytesArg
set_option linter.all false
namespace Go.Abs
open Go
section
variable {P : Program} {C : Cfg} {r : Ren} {H : Heap} {w : World}

theorem desc_of (hC : COK P C) {t : TypeId} {i : TI} (h : C.T t = some i) : ∃ d, P.underlying t = some d ∧ KOK P d i.k := (hC.T t i h).desc

theorem abytes_ok : ∀ {l : List AV} {x : List Value} {m : List UInt8}, VRL r l x → abytes l = some m →
    ∃ ns : List Int, x = ns.map (Value.int .u8) ∧ m = ns.map fun n => UInt8.ofNat n.toNat
  | [], x, m, hx, h => by
    simp only [abytes, Option.some.injEq] at h; simp only [VRL] at hx; subst h hx; exact ⟨[], rfl, rfl⟩
  | a :: l, x, m, hx, h => by
    simp only [VRL] at hx
    obtain ⟨c, y, rfl, h1, h2⟩ := hx
    unfold abytes at h
    split at h
    · cases ‹_ :: _ = []›
    · rename_i n l' heq
      cases heq
      split at h
      · rename_i m' hm
        cases h
        obtain ⟨ns, rfl, rfl⟩ := abytes_ok h2 hm
        simp only [VR] at h1; subst h1
        exact ⟨n :: ns, rfl, rfl⟩
      · cases h
    · cases h

theorem aconv_ok (hC : COK P C) (s : Sim P r H w) {src dst : TypeId} {x v : AV} {u : Value} (hu : VR r x u) (h : aconv C H src dst x = some v) :
    ∃ c, (convert src dst u).run P w = .ok c w ∧ VR r v c := by
  unfold aconv at h
  split at h
  · rename_i si di hs hd
    obtain ⟨d1, hd1, hk1⟩ := desc_of hC hs
    obtain ⟨d2, hd2, hk2⟩ := desc_of hC hd
    split at h
    · rename_i e1 e2
      rw [e1] at hk1; rw [e2] at hk2; simp only [KOK] at hk1 hk2; subst hk1 hk2
      simp only [VR] at hu; subst hu; cases h
      exact ⟨_, by simp [convert, run_under hd1, run_under hd2, Conv.intToInt], VR.int _ _⟩
    · rename_i e1 e2
      rw [e1] at hk1; rw [e2] at hk2; simp only [KOK] at hk1 hk2; subst hk1 hk2
      simp only [VR] at hu; subst hu; cases h
      exact ⟨_, by simp [convert, run_under hd1, run_under hd2], VR.str _⟩
    · rename_i e1 e2
      rw [e1] at hk1; rw [e2] at hk2; simp only [KOK] at hk1 hk2; subst hk1 hk2
      split at h
      · rename_i he
        obtain ⟨d3, hd3, hk3⟩ := desc_of hC he
        simp only [KOK] at hk3; subst hk3
        simp only [VR] at hu; subst hu; cases h
        exact ⟨.string .empty, by simp [convert, run_under hd1, run_under hd2, run_under hd3, Conv.bytesToString], by simp only [VR]; rfl⟩
      · cases h
    · rename_i e1 e2
      rw [e1] at hk1; rw [e2] at hk2; simp only [KOK] at hk1 hk2; subst hk1 hk2
      split at h
      · rename_i B he hb
        obtain ⟨d3, hd3, hk3⟩ := desc_of hC he
        simp only [KOK] at hk3; subst hk3
        split at h
        · rename_i hn
          simp only [VR] at hu
          obtain ⟨c, e, k, hr, rfl, _⟩ := hu
          obtain ⟨y, hy1, hy2⟩ := run_loadCells_at (P := P) (s.blk _ _ c e hb hr) hn
          cases hm : abytes ((B.cells.drop _).take _) with
          | none => rw [hm] at h; cases h
          | some m =>
            rw [hm] at h; cases h
            obtain ⟨ns, rfl, rfl⟩ := abytes_ok hy1 hm
            refine ⟨_, ?_, VR.str _⟩
            rw [run_convert_bytes_string w src dst _ _ _ _ hd1 hd3 hd2, run_bytesToString w _ _ _ ns hy2, foldl_push_bytes]
            show Result.ok (Value.string ⟨#[] ++ _⟩) w = _
            rw [Array.empty_append]
        · cases h
      · cases h
    · cases h
  · cases h

theorem aint_ok {x : Option AV} {u : Option Value} (hu : ∀ a, x = some a → ∃ c, u = some c ∧ VR r a c) (hn : x = none → u = none) {d n : Nat} (h : aint x d = some n) :
    (u = none ∧ n = d) ∨ ∃ k m, u = some (.int k m) ∧ 0 ≤ m ∧ n = m.toNat := by
  cases x with
  | none => simp only [aint, Option.some.injEq] at h; exact .inl ⟨hn rfl, h.symm⟩
  | some a =>
    obtain ⟨c, rfl, hv⟩ := hu a rfl
    cases a <;> simp only [aint] at h <;> try cases h
    simp only [VR] at hv; subst hv
    split at h
    · rename_i h0; cases h; exact .inr ⟨_, _, rfl, h0, rfl⟩
    · cases h

theorem bounds_run (isS : Bool) (len cap : Nat) {lo hi : Option Value} {l h : Nat} (hl : (lo = none ∧ l = 0) ∨ ∃ k m, lo = some (.int k m) ∧ 0 ≤ m ∧ l = m.toNat)
    (hh : (hi = none ∧ h = len) ∨ ∃ k m, hi = some (.int k m) ∧ 0 ≤ m ∧ h = m.toNat) (h1 : l ≤ h) (h2 : h ≤ cap) :
    (Instr.sliceBounds isS len cap lo hi none).run P w = .ok (l, h, cap) w := by
  rcases hh with ⟨rfl, rfl⟩ | ⟨k, m, rfl, hm, rfl⟩ <;> rcases hl with ⟨rfl, rfl⟩ | ⟨k', m', rfl, hm', rfl⟩
  · simp [Instr.sliceBounds]
  · have a1 : m' ≤ (h : Int) := by omega
    simp [Instr.sliceBounds, Instr.sliceBound, asIntOf, hm', a1]
  · have a1 : m ≤ (cap : Int) := by omega
    simp [Instr.sliceBounds, Instr.sliceBound, asIntOf, hm, a1]
  · have a1 : m ≤ (cap : Int) := by omega
    have a2 : m' ≤ m := by omega
    have a3 : max m 0 = m := by omega
    simp [Instr.sliceBounds, Instr.sliceBound, asIntOf, hm, hm', a1, a2, a3]

theorem addr_add (c o n : Nat) : (⟨c, o, none⟩ : Addr).add n = ⟨c, o + n, none⟩ := by
  unfold Addr.add
  by_cases h0 : n = 0 <;> simp [h0]

theorem extract_list (l : List UInt8) (a b : Nat) : (ByteArray.mk l.toArray).extract a b = ⟨((l.drop a).take (b - a)).toArray⟩ := by
  apply ByteArray.ext
  simp [ByteArray.data_extract]

theorem aslice_ok (hC : COK P C) {t : TypeId} {x v : AV} {u : Value} (hu : VR r x u) {lo hi : Option AV} {ul uh : Option Value}
    (hl : ∀ a, lo = some a → ∃ c, ul = some c ∧ VR r a c) (hl0 : lo = none → ul = none) (hh : ∀ a, hi = some a → ∃ c, uh = some c ∧ VR r a c) (hh0 : hi = none → uh = none)
    (h : aslice C t x lo hi = some v) : ∃ c, (Instr.sliceAt t u ul uh none).run P w = .ok c w ∧ VR r v c := by
  unfold aslice at h
  split at h
  · cases h
  · rename_i i hi'
    obtain ⟨d, hd, hk⟩ := desc_of hC hi'
    split at h
    · rename_i e1
      rw [e1] at hk; simp only [KOK] at hk; subst hk
      simp only [VR] at hu; subst hu
      split at h
      · rename_i a b h1 h2
        split at h
        · rename_i hab
          cases h
          have b1 := aint_ok hl hl0 h1
          have b2 := aint_ok hh hh0 h2
          refine ⟨_, ?_, VR.str _⟩
          have := bounds_run (P := P) (w := w) false _ _ b1 b2 hab.1 hab.2
          simp only [Instr.sliceAt, Instr.slice, run_under hd, Sem.run_bind, Result.andThen_ok, Option.isSome_none, Bool.false_eq_true, if_false, ByteArray.size, List.size_toArray, Sem.run_pure, this, extract_list]
        · cases h
      · cases h
    · rename_i e1
      rw [e1] at hk; simp only [KOK] at hk; subst hk
      simp only [VR] at hu; subst hu
      split at h
      · rename_i ei a b he h1 h2
        split at h
        · rename_i hab
          obtain ⟨rfl, rfl⟩ := hab
          cases h
          have b1 := aint_ok hl hl0 h1
          have b2 := aint_ok hh hh0 h2
          have ts := run_size (P := P) (w := w) (hC.T _ ei he)
          have := bounds_run (P := P) (w := w) true 0 0 b1 b2 (Nat.le_refl _) (Nat.le_refl _)
          refine ⟨.slice none 0 0, ?_, by simp only [VR]⟩
          simp only [Instr.sliceAt, Instr.slice, run_under hd, Sem.run_bind, Result.andThen_ok, this, ts, Sem.run_pure, if_true]
        · cases h
      · cases h
    · rename_i e b o len cap e1
      rw [e1] at hk; simp only [KOK] at hk; subst hk
      simp only [VR] at hu
      obtain ⟨c, ext, k, hr, rfl, hcap⟩ := hu
      split at h
      · rename_i ei l h' he h1 h2
        have b1 := aint_ok hl hl0 h1
        have b2 := aint_ok hh hh0 h2
        have ts := run_size (P := P) (w := w) (hC.T e ei he)
        have run : l ≤ h' → h' ≤ k → (Instr.sliceAt t (.slice (some ⟨c, o, none⟩) len k) ul uh none).run P w =
            .ok (.slice (some ⟨c, if k = l then o else o + l * ei.size, none⟩) (h' - l) (k - l)) w := by
          intro q1 q2
          have := bounds_run (P := P) (w := w) true len k b1 b2 q1 q2
          simp only [Instr.sliceAt, Instr.slice, run_under hd, Sem.run_bind, Result.andThen_ok, this, ts, Sem.run_pure, Option.map_some, addr_add]
          split <;> rfl
        split at h
        · rename_i n
          simp only at hcap; subst hcap
          split at h
          · rename_i hc
            cases h
            refine ⟨_, run hc.1 hc.2, ?_⟩
            simp only [VR]
            exact ⟨c, ext, _, hr, rfl, rfl⟩
          · cases h
        · rename_i es
          simp only at hcap
          obtain ⟨hcap1, hcap2⟩ := hcap
          split at h
          · rename_i hc
            split at h
            · rename_i hll
              subst hll
              split at h
              · rename_i h0
                subst h0
                cases h
                refine ⟨_, run hc.1 (by omega), ?_⟩
                simp only [VR]
                refine ⟨c, ext, k, hr, ?_, by omega, hcap2⟩
                have : h' = 0 := by omega
                subst this
                simp
              · cases h
                refine ⟨_, run hc.1 (by omega), ?_⟩
                simp only [VR]
                refine ⟨⟨c, if k = l then o else o + l * ei.size, none⟩, k - l, ?_⟩
                have : h' - l = 0 := by omega
                rw [this]
            · rename_i hll
              split at h
              · rename_i h0
                subst h0
                cases h
                refine ⟨_, run hc.1 (by omega), ?_⟩
                simp only [VR]
                refine ⟨c, ext, k, hr, by simp, by omega, hcap2⟩
              · rename_i h0
                split at h
                · rename_i hes
                  cases h
                  refine ⟨_, run hc.1 (by omega), ?_⟩
                  simp only [VR]
                  refine ⟨c, ext, k - l, hr, ?_, by omega, ?_⟩
                  · rw [if_neg (by omega)]
                  · have : o + l * ei.size + (k - l) * es = o + k * es := by
                      subst hes
                      rw [Nat.add_assoc, ← Nat.add_mul]
                      congr 2; omega
                    omega
                · cases h
          · cases h
      · cases h
    · rename_i n e b o e1
      rw [e1] at hk; simp only [KOK] at hk; subst hk
      simp only [VR] at hu
      obtain ⟨c, ext, hr, rfl⟩ := hu
      split at h
      · rename_i ei l h' he h1 h2
        have b1 := aint_ok hl hl0 h1
        have b2 := aint_ok hh hh0 h2
        have ts := run_size (P := P) (w := w) (hC.T e ei he)
        split at h
        · rename_i hc
          cases h
          have := bounds_run (P := P) (w := w) false n n b1 b2 hc.1 hc.2
          refine ⟨.slice (some ⟨c, if n = l then o else o + l * ei.size, none⟩) (h' - l) (n - l), ?_, ?_⟩
          · simp only [Instr.sliceAt, Instr.sureAddr, run_under hd, Sem.run_bind, Result.andThen_ok, this, ts, Sem.run_pure, addr_add]
            split <;> rfl
          · simp only [VR]
            exact ⟨c, ext, _, hr, rfl, rfl⟩
        · cases h
      · cases h
    · cases h

theorem afield_ok (hC : COK P C) {t : TypeId} {x v : AV} {u : Value} (hu : VR r x u) {f : Nat} (h : afield C t x f = some v) :
    ∃ c, (Instr.fieldAt t u f).run P w = .ok c w ∧ VR r v c := by
  unfold afield at h
  split at h
  · rename_i fs _ _ _ b o hT
    obtain ⟨d, hd, a, rfl, h1, h2⟩ := desc_of hC hT
    simp only [VR] at hu
    obtain ⟨c, e, hr, rfl⟩ := hu
    split at h
    · rename_i off size ft hf
      split at h
      · cases h
      · rename_i hs
        cases h
        have hmem := List.mem_of_getElem? hf
        have hsz := h2 _ hmem
        have hk : (a.toList.map (fun f => (f.offset, f.type)))[f]? = some (off, ft) := by rw [h1, List.getElem?_map, hf]; rfl
        rw [List.getElem?_map] at hk
        cases hfa : a.toList[f]? with
        | none => rw [hfa] at hk; cases hk
        | some fl =>
          rw [hfa] at hk
          simp only [Option.map_some, Option.some.injEq, Prod.mk.injEq] at hk
          obtain ⟨rfl, rfl⟩ := hk
          have hfa' : a[f]? = some fl := by simpa using hfa
          cases hi : P.info? fl.type with
          | none => rw [hi] at hsz; cases hsz
          | some ti =>
            rw [hi] at hsz
            simp only [Option.map_some, Option.some.injEq] at hsz
            refine ⟨.pointer (some ⟨c, o + fl.offset, none⟩), ?_, by simp only [VR]; exact ⟨c, e, hr, rfl⟩⟩
            simp [Instr.fieldAt, Instr.sureAddr, run_under hd, hfa', fieldPlace, sizeOf, run_info hi, hsz, hs, addr_add]
    · cases h
  · cases h

theorem aidx_ok (hC : COK P C) {t : TypeId} {x i v : AV} {u j : Value} (hu : VR r x u) (hj : VR r i j) (h : aidx C t x i = some v) :
    ∃ c, (Instr.indexAt t u j).run P w = .ok c w ∧ VR r v c := by
  unfold aidx at h
  split at h
  · rename_i e _ _ _ b o len cap k n hT
    obtain ⟨d, hd, hk⟩ := desc_of hC hT
    simp only [KOK] at hk; subst hk
    simp only [VR] at hu hj; subst hj
    obtain ⟨c, ex, q, hr, rfl, _⟩ := hu
    split at h
    · rename_i ei he
      split at h
      · rename_i hn
        cases h
        have ts := run_size (P := P) (w := w) (hC.T e ei he)
        refine ⟨.pointer (some ⟨c, o + n.toNat * ei.size, none⟩), ?_, by simp only [VR]; exact ⟨c, ex, hr, rfl⟩⟩
        simp [Instr.indexAt, asIntOf, run_under hd, hn.1, hn.2, ts, addr_add]
      · cases h
    · cases h
  · rename_i len e _ _ _ b o k n hT
    obtain ⟨d, hd, hk⟩ := desc_of hC hT
    simp only [KOK] at hk; subst hk
    simp only [VR] at hu hj; subst hj
    obtain ⟨c, ex, hr, rfl⟩ := hu
    split at h
    · rename_i ei he
      split at h
      · rename_i hn
        cases h
        have ts := run_size (P := P) (w := w) (hC.T e ei he)
        refine ⟨.pointer (some ⟨c, o + n.toNat * ei.size, none⟩), ?_, by simp only [VR]; exact ⟨c, ex, hr, rfl⟩⟩
        simp [Instr.indexAt, Instr.sureAddr, asIntOf, run_under hd, hn.1, hn.2, ts, addr_add]
      · cases h
    · cases h
  · cases h

theorem aindex_ok (hC : COK P C) {t : TypeId} {x i v : AV} {u j : Value} (hu : VR r x u) (hj : VR r i j) (h : aindex C t x i = some v) :
    ∃ c, (Instr.index t u j).run P w = .ok c w ∧ VR r v c := by
  unfold aindex at h
  split at h
  · rename_i l k n hT
    obtain ⟨d, hd, hk⟩ := desc_of hC hT
    simp only [KOK] at hk; subst hk
    simp only [VR] at hu hj; subst hu hj
    split at h
    · rename_i hn
      split at h
      · rename_i c hc
        cases h
        refine ⟨_, ?_, VR.int _ _⟩
        have hlt : n.toNat < l.length := (List.getElem?_eq_some_iff.1 hc).1
        have hlt' : n.toNat < (ByteArray.mk l.toArray).size := by simpa [ByteArray.size] using hlt
        have hget : (ByteArray.mk l.toArray)[n.toNat]? = some c := by
          rw [ByteArray.getElem?_lt' _ _ hlt']
          have := (List.getElem?_eq_some_iff.1 hc).2
          rw [← this]; rfl
        simp only [Instr.index, asIntOf, Sem.run_bind, Sem.run_pure, Result.andThen_ok, run_under hd, hn, if_true, hget]
      · cases h
    · cases h
  · rename_i len e _ _ _ cs k n hT
    obtain ⟨d, hd, hk⟩ := desc_of hC hT
    simp only [KOK] at hk; subst hk
    simp only [VR] at hu hj; subst hj
    obtain ⟨y, rfl, hy⟩ := hu
    split at h
    · rename_i ei he
      split at h
      · rename_i hn
        have ts := run_size (P := P) (w := w) (hC.T e ei he)
        obtain ⟨c, hc, hv⟩ := apart_ok (P := P) (w := w) hC hy h
        refine ⟨c, ?_, hv⟩
        simp only [Instr.index, asIntOf, Sem.run_bind, Sem.run_pure, Result.andThen_ok, run_under hd, hn, and_self, if_true, ts, hc]
      · cases h
    · cases h
  · cases h
end
end Go.Abs
