/- Heaps that agree outside of some blocks; sections with their lists; a walk cut in two. Conditions: none. -/
import Derived.Test.YtnladombaepkkaaGreatDoorSyms
import Derived.Test.YtnladombaepkkaaGreatDoorSizes
set_option linter.all false
namespace Go.Abs
open Go
section
variable {P : Program} {C : Cfg} {D : Nat → List DI} {nt : Nat} {l : List It} {Q : X → TM → Heap → Prop} {tm : TM} {H : Heap}
/-- What holds behind the next item, and then the rest. -/
theorem den_mid {c : Code} (I : TM → Heap → Prop) (h : den P C D nt (.code c :: .rd I :: l) Q .nrm tm H) (h2 : ∀ tm H, I tm H → den P C D nt l Q .nrm tm H) : den P C D nt (.code c :: l) Q .nrm tm H := by
  simp only [den, xthen] at h ⊢
  refine awp_mono c (fun x tm H hx => ?_) h
  cases x with
  | nrm => exact h2 _ _ hx
  | ret => exact hx
  | ex id => exact hx
/-- .. behind the next two items. -/
theorem den_mid2 {c d : Code} (I : TM → Heap → Prop) (h : den P C D nt (.code c :: .code d :: .rd I :: l) Q .nrm tm H) (h2 : ∀ tm H, I tm H → den P C D nt l Q .nrm tm H) : den P C D nt (.code c :: .code d :: l) Q .nrm tm H := by
  have h' : awp P C D nt c (den P C D nt (.code d :: .rd I :: l) Q) tm H := h
  show awp P C D nt c (den P C D nt (.code d :: l) Q) tm H
  refine awp_mono c (fun x tm H hx => ?_) h'
  cases x with
  | nrm => exact den_mid I hx h2
  | ret => exact hx
  | ex id => exact hx
end
namespace Heap
theorem get_setO_none (h : Heap) (b c : Nat) : (h.setO b none).get c = if b = c then none else h.get c := by
  simp only [get_if, setO, Tr.get_put]
  by_cases hb : b = c
  · subst hb; simp
  · simp [hb]
def wo (K : Heap) : List Nat → Heap
  | [] => K
  | b :: p => (wo K p).setO b none
theorem next_wo (K : Heap) : ∀ p, (K.wo p).next = K.next
  | [] => rfl
  | _ :: p => next_wo K p
theorem get_wo (K : Heap) : ∀ (p : List Nat) (c : Nat), (K.wo p).get c = if c ∈ p then none else K.get c
  | [], c => by simp [wo]
  | b :: p, c => by
    rw [wo, get_setO_none, get_wo K p c]
    by_cases h1 : b = c
    · subst h1; simp
    · have : ¬ c = b := fun e => h1 e.symm
      by_cases h2 : c ∈ p <;> simp [h1, h2, this]
theorem get_wo_some {K : Heap} {p : List Nat} {c : Nat} {B : Blk} (h : K.get c = some B) (hc : c ∉ p) : (K.wo p).get c = some B := by
  rw [get_wo, if_neg hc]; exact h
theorem of_wo {K : Heap} {p : List Nat} {c : Nat} {B : Blk} (h : (K.wo p).get c = some B) : c ∉ p ∧ K.get c = some B := by
  rw [get_wo] at h
  split at h
  · cases h
  · exact ⟨by assumption, h⟩
theorem wo_sub (K : Heap) (p : List Nat) : (K.wo p).Sub K := fun c B h => (of_wo h).2
/-- Outside of some blocks all is as it was. -/
def Agree (p : List Nat) (K K' : Heap) : Prop := ∀ c B, c ∉ p → K.get c = some B → K'.get c = some B
theorem Agree.refl (p : List Nat) (K : Heap) : Agree p K K := fun _ _ _ h => h
theorem Agree.of_sub {p : List Nat} {K K' : Heap} (h : K.Sub K') : Agree p K K' := fun c B _ hc => h c B hc
theorem Agree.trans {p : List Nat} {K K' K'' : Heap} (h : Agree p K K') (k : Agree p K' K'') : Agree p K K'' := fun c B hc h' => k c B hc (h c B hc h')
theorem Agree.mono {p q : List Nat} {K K' : Heap} (h : Agree p K K') (hs : ∀ c ∈ p, c ∈ q) : Agree q K K' := fun c B hc h' => h c B (fun hp => hc (hs c hp)) h'
theorem Agree.grow {p : List Nat} {K K' : Heap} (h : Agree p K K') (l : List (Option Blk)) : Agree p K (K'.grow l) := fun c B hc h' => by
  have := h c B hc h'
  rw [get_grow_old _ _ (lt_of_get this)]; exact this
theorem Agree.setO {p : List Nat} {K K' : Heap} (h : Agree p K K') {b : Nat} (hb : b ∈ p ∨ K.next ≤ b) (x : Option Blk) : Agree p K (K'.setO b x) := fun c B hc h' => by
  have hne : b ≠ c := fun e => by
    subst e
    rcases hb with hb | hb
    · exact hc hb
    · exact absurd (lt_of_get h') (by omega)
  rw [get_setO_ne K' x hne]; exact h c B hc h'
theorem Agree.set {p : List Nat} {K K' : Heap} (h : Agree p K K') {b : Nat} (hb : b ∈ p ∨ K.next ≤ b) (x : Blk) : Agree p K (K'.set b x) := h.setO hb (some x)
theorem Agree.sub {p p' : List Nat} {K K' : Heap} (h : Agree p K K') (hp : ∀ c ∈ p', c ∈ p ∨ K.next ≤ c) : (K.wo p).Sub (K'.wo p') := fun c B hc => by
  obtain ⟨h1, h2⟩ := of_wo hc
  refine get_wo_some (h c B h1 h2) fun h3 => ?_
  rcases hp c h3 with h4 | h4
  · exact h1 h4
  · exact absurd (lt_of_get h2) (by omega)
theorem Agree.sub0 {p : List Nat} {K K' : Heap} (h : Agree p K K') (hp : ∀ c ∈ p, K.next ≤ c) : K.Sub K' := fun c B hc =>
  h c B (fun hm => absurd (lt_of_get hc) (by have := hp c hm; omega)) hc
theorem get_set_self {h : Heap} {b : Nat} (x : Blk) (hb : b < h.next) : (h.set b x).get b = some x := by
  simp [get_if, set, Tr.get_put, hb]
end Heap
end Go.Abs
namespace Go.Proofs.YtnladombaepkkaaGreatDoor
open Go Go.Abs
structure Sec where
  h : SecH
  syms : List SymD
  rels : List RelD
  mems : List Int
def Sec.Small (x : Sec) : Prop := x.syms.length ≤ 17 ∧ x.rels.length ≤ 6 ∧ x.mems.length ≤ 2 ∧ x.h.Good
def SecR (K : Heap) (x : Sec) (c : List AV) : Prop := ∃ a b d, c = x.h.cells a b d ∧ SlR K 7 (x.syms.map SymD.cells) a ∧ SlR K 4 (x.rels.map RelD.cells) b ∧ SlR K 1 (x.mems.map fun m => [AV.i .u64 m]) d
theorem SecR.mono {K K' : Heap} {x : Sec} {c : List AV} (h : SecR K x c) (hs : K.Sub K') : SecR K' x c := by
  obtain ⟨a, b, d, h1, h2, h3, h4⟩ := h
  exact ⟨a, b, d, h1, h2.mono hs, h3.mono hs, h4.mono hs⟩
theorem SecR.len {K : Heap} {x : Sec} {c : List AV} (h : SecR K x c) : c.length = 13 := by
  obtain ⟨a, b, d, rfl, _⟩ := h; rfl
/-- Sections one by one. -/
def Secs (K : Heap) : List Sec → List (List AV) → Prop
  | [], els => els = []
  | x :: xs, els => ∃ c cs, els = c :: cs ∧ SecR K x c ∧ Secs K xs cs
theorem Secs.mono {K K' : Heap} (hs : K.Sub K') : ∀ {xs : List Sec} {els : List (List AV)}, Secs K xs els → Secs K' xs els
  | [], els, h => h
  | x :: xs, els, ⟨c, cs, h1, h2, h3⟩ => ⟨c, cs, h1, h2.mono hs, Secs.mono hs h3⟩
theorem Secs.length {K : Heap} : ∀ {xs : List Sec} {els : List (List AV)}, Secs K xs els → els.length = xs.length
  | [], els, h => by simp only [Secs] at h; simp [h]
  | x :: xs, els, ⟨c, cs, h1, h2, h3⟩ => by simp [h1, h3.length]
theorem Secs.len {K : Heap} : ∀ {xs : List Sec} {els : List (List AV)}, Secs K xs els → ∀ c ∈ els, c.length = 13
  | [], els, h => by simp only [Secs] at h; simp [h]
  | x :: xs, els, ⟨c, cs, h1, h2, h3⟩ => by
    subst h1; intro d hd
    rcases List.mem_cons.1 hd with rfl | hd
    · exact h2.len
    · exact h3.len d hd
theorem Secs.snoc {K : Heap} : ∀ {xs : List Sec} {els : List (List AV)} {x : Sec} {c : List AV}, Secs K xs els → SecR K x c → Secs K (xs ++ [x]) (els ++ [c])
  | [], els, x, c, h, hx => by simp only [Secs] at h; subst h; exact ⟨c, [], rfl, hx, rfl⟩
  | y :: xs, els, x, c, ⟨d, cs, h1, h2, h3⟩, hx => ⟨d, cs ++ [c], by simp [h1], h2, h3.snoc hx⟩
theorem Secs.at {K : Heap} : ∀ {xs : List Sec} {els : List (List AV)}, Secs K xs els → ∀ {i : Nat} (hi : i < xs.length) (he : i < els.length), SecR K xs[i] els[i]
  | [], els, h, i, hi, he => by simp at hi
  | x :: xs, els, ⟨c, cs, h1, h2, h3⟩, 0, hi, he => by subst h1; exact h2
  | x :: xs, els, ⟨c, cs, h1, h2, h3⟩, i + 1, hi, he => by subst h1; exact h3.at (by simpa using hi) (by simpa using he)
theorem SlR.nil_ns {K : Heap} {sz : Nat} : SlR K sz [] .ns := ⟨by simp, .inl ⟨rfl, .inl rfl⟩⟩
theorem Own.sl {H K K' : Heap} {sz : Nat} {els : List (List AV)} {v : AV} (h : Own H K sz els v) (hk : ∀ b B, H.next ≤ b → K.get b = some B → K'.get b = some B) : SlR K' sz els v := by
  obtain ⟨b, cap, rfl, h1, h2, h3, h4⟩ := h
  exact ⟨h4, .inr ⟨b, 0, cap, _, rfl, hk _ _ h2 h1, by rw [List.drop_zero, ← flatten_len h4, List.take_length], by rw [← flatten_len h4]; simp⟩⟩
theorem SlR.one {K : Heap} {sz : Nat} {els : List (List AV)} {v : AV} (h : SlR K sz els v) : v.one = true := by
  obtain ⟨_, ⟨_, rfl | rfl⟩ | ⟨b, o, cap, B, rfl, _⟩⟩ := h <;> rfl
theorem SlR.at_blk {K K' : Heap} {b o n sz : Nat} {els : List (List AV)} {cap : Cap} (h : SlR K sz els (.sl b o n cap)) (hb : ∀ B, K.get b = some B → K'.get b = some B) : SlR K' sz els (.sl b o n cap) := by
  obtain ⟨h1, ⟨h2, h3 | h3⟩ | ⟨b', o', cap', B, h2, h3, h4⟩⟩ := h
  · cases h3
  · cases h3
  · cases h2
    exact ⟨h1, .inr ⟨b, o, cap, B, rfl, hb _ h3, h4⟩⟩
theorem SlR.blk {K : Heap} {b sz n : Nat} {els : List (List AV)} {cap : Cap} {B : Blk} (hg : K.get b = some B) (hB : B.cells = els.flatten) (he : ∀ c ∈ els, c.length = sz) (hn : n = els.length) : SlR K sz els (.sl b 0 n cap) := by
  subst hn
  exact ⟨he, .inr ⟨b, 0, cap, B, rfl, hg, by rw [List.drop_zero, hB, ← flatten_len he, List.take_length], by rw [hB, ← flatten_len he]; simp⟩⟩
theorem get_of_take {l m : List AV} {s n : Nat} (h : (l.drop s).take n = m) (j : Nat) (hj : j < n) : l[s + j]? = m[j]? := by subst h; simp [hj]
/-- A list that may be nil yet. -/
def Own0 (H K : Heap) (sz : Nat) (els : List (List AV)) (v : AV) : Prop := (els = [] ∧ v = .ns) ∨ Own H K sz els v
theorem Own0.sl {H K K' : Heap} {sz : Nat} {els : List (List AV)} {v : AV} (h : Own0 H K sz els v) (hk : ∀ b B, H.next ≤ b → K.get b = some B → K'.get b = some B) : SlR K' sz els v := by
  rcases h with ⟨rfl, rfl⟩ | h
  · exact SlR.nil_ns
  · exact h.sl hk
theorem Own.cells {H K : Heap} {sz : Nat} {els : List (List AV)} {v : AV} (h : Own H K sz els v) : ∃ b n cap, v = .sl b 0 n cap := by
  obtain ⟨b, cap, rfl, _⟩ := h; exact ⟨_, _, _, rfl⟩
theorem own_step {B0 K1 K0 : Heap} {bm sz i nn : Nat} {els els' : List (List AV)} {l : List (Option Blk)} {c : List AV} {F : AV → List AV} (hb : B0.next ≤ K1.next) (hbm : bm < K1.next) (y1 : K0.next = K1.next) (y3 : nn = els.length + 1)
    (he : ∀ c ∈ els, c.length = sz) (hc : c.length = sz) (y4 : l.getD i none = some ⟨els.flatten ++ c, true⟩) (he' : els' = els ++ [c]) :
    ((K0.set bm ⟨F (.sl (K1.next + i) 0 nn (.op sz)), true⟩).grow l).get bm = some ⟨F (.sl (K1.next + i) 0 nn (.op sz)), true⟩ ∧
      Own B0 ((K0.set bm ⟨F (.sl (K1.next + i) 0 nn (.op sz)), true⟩).grow l) sz els' (.sl (K1.next + i) 0 nn (.op sz)) := by
  subst y3 he'
  refine ⟨?_, ?_⟩
  · rw [Heap.get_grow_old _ _ (by rw [Heap.next_set]; omega), Heap.get_set_self _ (by omega)]
  · have := Heap.get_grow l (K0.set bm ⟨F (.sl (K1.next + i) 0 (els.length + 1) (.op sz)), true⟩) i
    rw [Heap.next_set, y1] at this
    exact Own.snoc (els := els) (x := c) (this.trans y4) rfl rfl hc he (by omega) rfl rfl rfl
theorem rel_step {K K1 K0 : Heap} {rels : List RelD} {k i nn : Nat} {l : List (Option Blk)} {c : List AV} {F : AV → List AV} (hk1 : K.next < K1.next) (hrl : rels.length = k) (y1 : K0.next = K1.next) (y2 : K.Sub K0) (y3 : nn = k + 1)
    (y4 : l.getD i none = some ⟨(rels.map RelD.cells).flatten ++ c, true⟩) (y5 : ∃ r : RelD, c = r.cells) :
    ∃ r : RelD, K.Sub ((K0.set K.next ⟨F (.sl (K1.next + i) 0 nn (.op 4)), true⟩).grow l) ∧ ((K0.set K.next ⟨F (.sl (K1.next + i) 0 nn (.op 4)), true⟩).grow l).get K.next = some ⟨F (.sl (K1.next + i) 0 nn (.op 4)), true⟩ ∧
      Own (K.grow [none]) ((K0.set K.next ⟨F (.sl (K1.next + i) 0 nn (.op 4)), true⟩).grow l) 4 ((rels ++ [r]).map RelD.cells) (.sl (K1.next + i) 0 nn (.op 4)) := by
  subst y3
  obtain ⟨r, rfl⟩ := y5
  refine ⟨r, Heap.Sub.grow (Heap.Sub.set y2 (Nat.le_refl _) _) _, ?_, ?_⟩
  · rw [Heap.get_grow_old _ _ (by rw [Heap.next_set]; omega), Heap.get_set_self _ (by omega)]
  · have := Heap.get_grow l (K0.set K.next ⟨F (.sl (K1.next + i) 0 (k + 1) (.op 4)), true⟩) i
    rw [Heap.next_set, y1] at this
    refine Own.snoc (els := rels.map RelD.cells) (x := r.cells) (this.trans y4) rfl rfl rfl ?_ ?_ ?_ rfl ?_
    · intro c hc; simp at hc; obtain ⟨r, _, rfl⟩ := hc; rfl
    · rw [Heap.next_grow]; simp; omega
    · simp [hrl]
    · simp
end Go.Proofs.YtnladombaepkkaaGreatDoor
