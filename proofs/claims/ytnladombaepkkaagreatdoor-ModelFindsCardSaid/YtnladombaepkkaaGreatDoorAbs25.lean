/- The abstract machine as a program that the kernel runs, and that its answers are the model's. Conditions: none. -/
import Derived.Test.YtnladombaepkkaaGreatDoorAbs24
set_option linter.all false
namespace Go.Abs
open Go

deriving instance DecidableEq for Cap
mutual
def avb : AV → AV → Bool
  | .b x, .b y => x == y
  | .i k n, .i k' m => decide (k = k') && decide (n = m)
  | .s l, .s m => l == m
  | .p b o, .p b' o' => Nat.beq b b' && Nat.beq o o'
  | .np, .np => true
  | .sl b o n c, .sl b' o' n' c' => Nat.beq b b' && Nat.beq o o' && Nat.beq n n' && decide (c = c')
  | .ns, .ns => true
  | .em, .em => true
  | .fn f a b, .fn f' a' b' => decide (f = f') && avbl a a' && avbl b b'
  | .nf, .nf => true
  | .ag l, .ag m => avbl l m
  | .tu l, .tu m => avbl l m
  | .ni, .ni => true
  | .nm, .nm => true
  | .mp b, .mp b' => Nat.beq b b'
  | _, _ => false
def avbl : List AV → List AV → Bool
  | [], [] => true
  | a :: l, b :: m => avb a b && avbl l m
  | _, _ => false
end
mutual
theorem avb_eq : ∀ (a b : AV), avb a b = true → a = b
  | .b _, .b _, h | .i _ _, .i _ _, h | .s _, .s _, h | .p _ _, .p _ _, h | .np, .np, _ | .ns, .ns, _ | .em, .em, _ | .nf, .nf, _ | .ni, .ni, _ | .nm, .nm, _ | .mp _, .mp _, h | .sl _ _ _ _, .sl _ _ _ _, h => by
    simp_all [avb]
  | .fn f a b, .fn f' a' b', h => by
    simp only [avb, Bool.and_eq_true, decide_eq_true_eq] at h
    rw [h.1.1, avbl_eq a a' h.1.2, avbl_eq b b' h.2]
  | .ag l, .ag m, h => by simp only [avb] at h; rw [avbl_eq l m h]
  | .tu l, .tu m, h => by simp only [avb] at h; rw [avbl_eq l m h]
theorem avbl_eq : ∀ (l m : List AV), avbl l m = true → l = m
  | [], [], _ => rfl
  | a :: l, b :: m, h => by
    simp only [avbl, Bool.and_eq_true] at h
    rw [avb_eq a b h.1, avbl_eq l m h.2]
end

abbrev CallF := FuncId → List AV → Heap → Option (AV × Heap)

def evPut (nt : Nat) (dst : Option Tmp) (v : Option AV) (tm : TM) : Option TM :=
  match dst with
  | none => some tm
  | some d => bif Nat.blt d nt then some (tm.put d v) else none
def evOp (call : CallF) (C : Cfg) (nt : Nat) (o : Oper) (tm : TM) (H : Heap) : Option (TM × Heap) :=
  match o.op with
  | .store t a x =>
    match aev C tm a, aev C tm x with
    | some p, some v => match astore C H t p v with | some H' => (match evPut nt o.dst none tm with | some tm' => some (tm', H') | none => none) | none => none
    | _, _ => none
  | .call ⟨.value f, args, _⟩ =>
    match aev C tm f, aevs (aev C tm) args.toList with
    | some (.fn (.func g) fi ca), some xs =>
      match call g (fi ++ xs ++ ca) H with
      | some (v, H') => match evPut nt o.dst (some v) tm with | some tm' => some (tm', H') | none => none
      | none => none
    | _, _ => none
  | op =>
    match aval C H (aev C tm) op with
    | some v => match evPut nt o.dst (some v) tm with | some tm' => some (tm', H) | none => none
    | none =>
      match amake C H (aev C tm) op with
      | some (v, H') => match evPut nt o.dst (some v) tm with | some tm' => some (tm', H') | none => none
      | none => none
def evOps (call : CallF) (C : Cfg) (nt : Nat) (ops : Array Oper) : List Oper → TM → Heap → Option (TM × Heap)
  | [], tm, H => some (tm, H)
  | o :: l, tm, H =>
    match gval ops tm o with
    | some true => match evOp call C nt o tm H with | some (tm', H') => evOps call C nt ops l tm' H' | none => none
    | some false => match evPut nt o.dst (some (.tu [])) tm with | some tm' => evOps call C nt ops l tm' H | none => none
    | none => none

def oavb : Option AV → Option AV → Bool
  | some a, some b => avb a b
  | _, _ => false
def blkb (H : Heap) (b : Nat) (B : Blk) : Bool := match H.get b with | some B' => avbl B'.cells B.cells && (B'.wr == B.wr) | none => false
def evRemake (C : Cfg) (tm : TM) (H : Heap) (o : Oper) : Bool :=
  match aval C H (aev C tm) o.op with
  | some v => match o.dst with | some d => oavb (tm.get d) (some v) | none => true
  | none =>
    match mk C (aev C tm) o.op, o.dst with
    | some (v, B), some d => match tm.get d with | some (.p b p) => blkb H b B && avb (.p b p) (v.rebase b) | some (.sl b p n c) => blkb H b B && avb (.sl b p n c) (v.rebase b) | _ => false
    | _, _ => false
def evChk (C : Cfg) (ops : Array Oper) (tm : TM) (H : Heap) : List Nat → Bool
  | [] => true
  | j :: l => (match ops[j]? with | some o => (match gval ops tm o with | some false => true | some true => evRemake C tm H o | none => false) | none => false) && evChk C ops tm H l
def evDraw (call : CallF) (C : Cfg) (nt : Nat) (ops : Array Oper) : List DI → TM → Heap → Option (TM × Heap)
  | [], tm, H => some (tm, H)
  | x :: rest, tm, H =>
    match ops[x.1]? with
    | none => none
    | some o =>
      match gval ops tm o with
      | some true =>
        match evOp call C nt o tm H with
        | some (tm', H') => bif evChk C ops tm' H' x.2.2.1 then evDraw call C nt ops rest tm' H' else none
        | none => none
      | some false =>
        match evPut nt o.dst (some (.tu [])) tm with
        | some tm' => bif evChk C ops tm' H x.2.2.1 then evDraw call C nt ops rest tm' H else none
        | none => none
      | none => none

def evLoop (body : TM → Heap → Option (X × TM × Heap)) : Nat → TM → Heap → Option (X × TM × Heap)
  | 0, _, _ => none
  | k + 1, tm, H =>
    match body tm H with
    | some (.nrm, tm', H') => evLoop body k tm' H'
    | some (.ret, tm', H') => some (.ret, tm', H')
    | some (.ex i, tm', H') => some (.ex i, tm', H')
    | none => none
def evC (call : CallF) (C : Cfg) (V : Nat → Bool) (D : Nat → List DI) (nt k : Nat) : Code → TM → Heap → Option (X × TM × Heap)
  | .skip, tm, H => some (.nrm, tm, H)
  | .label _, tm, H => some (.nrm, tm, H)
  | .ret, tm, H => some (.ret, tm, H)
  | .exit id, tm, H => some (.ex id, tm, H)
  | .seq a b, tm, H =>
    match evC call C V D nt k a tm H with
    | some (.nrm, tm', H') => evC call C V D nt k b tm' H'
    | some (.ret, tm', H') => some (.ret, tm', H')
    | some (.ex i, tm', H') => some (.ex i, tm', H')
    | none => none
  | .cond c a b, tm, H =>
    match aev C tm c with
    | some (.b t) => bif t then evC call C V D nt k a tm H else evC call C V D nt k b tm H
    | _ => none
  | .block id c, tm, H =>
    match evC call C V D nt k c tm H with
    | some (.ex i, tm', H') => bif Nat.beq i id then some (.nrm, tm', H') else some (.ex i, tm', H')
    | some (.ret, tm', H') => some (.ret, tm', H')
    | some (.nrm, tm', H') => some (.nrm, tm', H')
    | none => none
  | .scope c, tm, H => evC call C V D nt k c tm H
  | .loop c, tm, H => evLoop (evC call C V D nt k c) k tm H
  | .region id ops true, tm, H =>
    bif V id then (match evDraw call C nt ops (D id) tm H with | some (tm', H') => some (.nrm, tm', H') | none => none) else none
  | .region _ ops false, tm, H => match evOps call C nt ops ops.toList tm H with | some (tm', H') => some (.nrm, tm', H') | none => none
  | _, _, _ => none

/-- A function as the machine runs it. -/
structure EF where
  nt : Nat
  code : Code
  res : List ResultVar
  D : Nat → List DI
  V : Nat → Bool
structure EFOK (P : Program) (f : FuncId) (e : EF) : Prop where
  fn : ∃ fn, P.funcs[f]? = some fn ∧ fn.body = some e.code ∧ (fn.name == "runtime.NumGoroutine") = false ∧ fn.ntmps = e.nt ∧ fn.results.toList = e.res
/-- The drawn regions whose orders fit. -/
def drawn : Code → List (Nat × Array Oper)
  | .seq a b => drawn a ++ drawn b
  | .cond _ a b => drawn a ++ drawn b
  | .block _ c => drawn c
  | .scope c => drawn c
  | .loop c => drawn c
  | .region id ops true => [(id, ops)]
  | _ => []
def VOK (e : EF) : Prop := ∀ x ∈ drawn e.code, e.V x.1 = true → vdraw x.2 (e.D x.1) = true

def evF (F : FuncId → Option EF) (S : FuncId → List AV → Option AV) (C : Cfg) (k : Nat) : Nat → CallF
  | 0, _, _, _ => none
  | n + 1, f, args, H =>
    match S f args with
    | some v => some (v, H)
    | none =>
      match F f with
      | none => none
      | some e =>
        bif Nat.ble args.length e.nt then
          (match evC (evF F S C k n) C e.V e.D e.nt k e.code (tmArgs 0 args .l) H with
           | some (.ex _, _, _) => none
           | some (_, tm, H') => match ares C tm H' e.res with | some v => some (v, H') | none => none
           | none => none)
        else none

section
variable {P : Program} {C : Cfg} {nt : Nat} {call : CallF}
def CallOK (P : Program) (call : CallF) : Prop := ∀ g args H v H', call g args H = some (v, H') → SCalls P g args H (fun u K => u = v ∧ K = H')

theorem evPut_ok {dst : Option Tmp} {v : Option AV} {tm tm' : TM} {K : TM → Prop} (h : evPut nt dst v tm = some tm') (hk : K tm') : aput nt dst v tm K := by
  cases dst with
  | none => cases h; exact hk
  | some d =>
    simp only [evPut, Bool.cond_eq_ite] at h
    split at h
    · rename_i hd
      cases h
      simp only [aput]
      rw [if_pos (by simpa [Nat.blt_eq] using hd)]
      exact hk
    · cases h

theorem evOp_ok (hc : CallOK P call) {o : Oper} {tm tm' : TM} {H H' : Heap} {K : TM → Heap → Prop} (h : evOp call C nt o tm H = some (tm', H')) (hk : K tm' H') : aop P C nt o K tm H := by
  unfold evOp at h
  unfold aop aopV
  split at h
  · rename_i t a x hop
    rw [hop]
    simp only
    split at h
    · rename_i p v hp hv
      rw [hp, hv]
      simp only
      split at h
      · rename_i H1 hH
        rw [hH]
        simp only
        split at h
        · rename_i t1 ht; cases h; exact evPut_ok ht hk
        · cases h
      · cases h
    · cases h
  · rename_i f args at_ hop
    rw [hop]
    simp only
    split at h
    · rename_i g fi ca xs hf hxs
      rw [hf, hxs]
      simp only
      split at h
      · rename_i v H1 hcall
        split at h
        · rename_i t1 ht
          cases h
          refine (hc _ _ _ _ _ hcall).mono ?_
          rintro u K' ⟨rfl, rfl⟩
          exact evPut_ok ht hk
        · cases h
      · cases h
    · cases h
  · rename_i n1 n2
    split
    · rename_i hop; exact absurd hop (n1 _ _ _)
    · rename_i hop; exact absurd hop (n2 _ _ _)
    · split at h
      · rename_i v hv
        rw [hv]
        simp only
        split at h
        · rename_i t1 ht; cases h; exact evPut_ok ht hk
        · cases h
      · rename_i hv
        rw [hv]
        simp only
        split at h
        · rename_i v H1 hm
          rw [hm]
          simp only
          split at h
          · rename_i t1 ht; cases h; exact evPut_ok ht hk
          · cases h
        · cases h

theorem evOps_ok (hc : CallOK P call) {ops : Array Oper} {K : TM → Heap → Prop} : ∀ {l : List Oper} {tm tm' : TM} {H H' : Heap}, evOps call C nt ops l tm H = some (tm', H') → K tm' H' → aops P C nt ops K l tm H
  | [], tm, tm', H, H', h, hk => by cases h; exact hk
  | o :: l, tm, tm', H, H', h, hk => by
    simp only [evOps] at h
    simp only [aops]
    split at h
    · rename_i hg
      rw [hg]
      simp only
      split at h
      · rename_i t1 H1 h1
        exact evOp_ok hc h1 (evOps_ok hc h hk)
      · cases h
    · rename_i hg
      rw [hg]
      simp only
      split at h
      · rename_i t1 h1; exact evPut_ok h1 (evOps_ok hc h hk)
      · cases h
    · cases h

theorem blkb_ok {H : Heap} {b : Nat} {B : Blk} (h : blkb H b B = true) : H.get b = some B := by
  unfold blkb at h
  split at h
  · rename_i B' hB
    simp only [Bool.and_eq_true, beq_iff_eq] at h
    rw [hB]
    have := avbl_eq _ _ h.1
    cases B'; cases B; simp_all
  · cases h
theorem evRemake_ok {tm : TM} {H : Heap} {o : Oper} (h : evRemake C tm H o = true) : remake C tm H o := by
  unfold evRemake at h
  unfold remake
  split at h
  · rename_i v hv
    rw [hv]
    simp only
    split at h
    · rename_i d hd
      rw [hd]
      simp only
      unfold oavb at h
      split at h
      · rename_i a b ha hb
        cases hb
        rw [ha, avb_eq _ _ h]
      · cases h
    · rename_i hd; rw [hd]; trivial
  · rename_i hv
    rw [hv]
    simp only
    split at h
    · rename_i v B d hm hd
      rw [hm, hd]
      simp only
      split at h
      · rename_i b p hg
        simp only [Bool.and_eq_true] at h
        exact ⟨b, blkb_ok h.1, by rw [hg, avb_eq _ _ h.2]⟩
      · rename_i b p n c hg
        simp only [Bool.and_eq_true] at h
        exact ⟨b, blkb_ok h.1, by rw [hg, avb_eq _ _ h.2]⟩
      · cases h
    · cases h
theorem evChk_ok {ops : Array Oper} {tm : TM} {H : Heap} : ∀ {l : List Nat}, evChk C ops tm H l = true → achk C ops tm H l
  | [], _ => trivial
  | j :: l, h => by
    simp only [evChk, Bool.and_eq_true] at h
    refine ⟨?_, evChk_ok h.2⟩
    have h1 := h.1
    cases ho : ops[j]? with
    | none => rw [ho] at h1; cases h1
    | some o =>
      rw [ho] at h1
      simp only at h1 ⊢
      cases hg : gval ops tm o with
      | none => rw [hg] at h1; cases h1
      | some b =>
        rw [hg] at h1
        cases b
        · exact .inl rfl
        · exact .inr ⟨rfl, evRemake_ok h1⟩

theorem evDraw_ok (hc : CallOK P call) {ops : Array Oper} {K : TM → Heap → Prop} : ∀ {l : List DI} {tm tm' : TM} {H H' : Heap}, evDraw call C nt ops l tm H = some (tm', H') → K tm' H' → adraw P C nt ops K l tm H
  | [], tm, tm', H, H', h, hk => by cases h; exact hk
  | x :: l, tm, tm', H, H', h, hk => by
    simp only [evDraw] at h
    simp only [adraw]
    split at h
    · cases h
    · rename_i o ho
      rw [ho]
      simp only
      split at h
      · rename_i hg
        rw [hg]
        simp only
        split at h
        · rename_i t1 H1 h1
          simp only [Bool.cond_eq_ite] at h
          split at h
          · rename_i hch; exact evOp_ok hc h1 ⟨evChk_ok hch, evDraw_ok hc h hk⟩
          · cases h
        · cases h
      · rename_i hg
        rw [hg]
        simp only
        split at h
        · rename_i t1 h1
          simp only [Bool.cond_eq_ite] at h
          split at h
          · rename_i hch; exact evPut_ok h1 ⟨evChk_ok hch, evDraw_ok hc h hk⟩
          · cases h
        · cases h
      · cases h

theorem evC_ok (hc : CallOK P call) {V : Nat → Bool} {D : Nat → List DI} {k : Nat} : ∀ (c : Code), (∀ x ∈ drawn c, V x.1 = true → vdraw x.2 (D x.1) = true) → ∀ {K : X → TM → Heap → Prop} {tm tm' : TM} {H H' : Heap} {x : X},
    evC call C V D nt k c tm H = some (x, tm', H') → K x tm' H' → awp P C D nt c K tm H := by
  intro c
  induction c with
  | skip => intro _ K tm tm' H H' x h hk; cases h; exact hk
  | label => intro _ K tm tm' H H' x h hk; cases h; exact hk
  | ret => intro _ K tm tm' H H' x h hk; cases h; exact hk
  | exit id => intro _ K tm tm' H H' x h hk; cases h; exact hk
  | seq a b iha ihb =>
    intro hd K tm tm' H H' x h hk
    simp only [evC] at h
    have ha : ∀ x ∈ drawn a, V x.1 = true → vdraw x.2 (D x.1) = true := fun x hx => hd x (by simp [drawn, hx])
    have hb : ∀ x ∈ drawn b, V x.1 = true → vdraw x.2 (D x.1) = true := fun x hx => hd x (by simp [drawn, hx])
    split at h
    · rename_i t1 H1 h1; exact iha ha h1 (ihb hb h hk)
    · rename_i t1 H1 h1; cases h; exact iha ha h1 hk
    · rename_i i t1 H1 h1; cases h; exact iha ha h1 hk
    · cases h
  | cond c a b iha ihb =>
    intro hd K tm tm' H H' x h hk
    simp only [evC] at h
    have ha : ∀ x ∈ drawn a, V x.1 = true → vdraw x.2 (D x.1) = true := fun x hx => hd x (by simp [drawn, hx])
    have hb : ∀ x ∈ drawn b, V x.1 = true → vdraw x.2 (D x.1) = true := fun x hx => hd x (by simp [drawn, hx])
    simp only [awp]
    split at h
    · rename_i t ht
      rw [ht]
      simp only
      cases t
      · exact ihb hb h hk
      · exact iha ha h hk
    · cases h
  | block id c ih =>
    intro hd K tm tm' H H' x h hk
    simp only [evC] at h
    split at h
    · rename_i i t1 H1 h1
      refine ih hd h1 ?_
      simp only [Bool.cond_eq_ite] at h
      simp only [xblock]
      split at h
      · rename_i hi; rw [if_pos (by simpa using hi)]; cases h; exact hk
      · rename_i hi; rw [if_neg (by simpa using hi)]; cases h; exact hk
    · rename_i t1 H1 h1; cases h; exact ih hd h1 hk
    · rename_i t1 H1 h1; cases h; exact ih hd h1 hk
    · cases h
  | scope c ih => intro hd K tm tm' H H' x h hk; exact ih hd h hk
  | loop c ih =>
    intro hd K tm tm' H H' x h hk
    simp only [evC] at h
    simp only [awp]
    intro I hI
    have gen : ∀ m {tm : TM} {H : Heap}, evLoop (evC call C V D nt k c) m tm H = some (x, tm', H') → I tm H := by
      intro m
      induction m with
      | zero => intro tm H h; cases h
      | succ m ihm =>
        intro tm H h
        simp only [evLoop] at h
        split at h
        · rename_i t1 H1 h1; exact hI _ _ (ih hd h1 (ihm h))
        · rename_i t1 H1 h1; cases h; exact hI _ _ (ih hd h1 hk)
        · rename_i i t1 H1 h1; cases h; exact hI _ _ (ih hd h1 hk)
        · cases h
    exact gen k h
  | region id ops draw =>
    intro hd K tm tm' H H' x h hk
    cases draw with
    | true =>
      simp only [evC, Bool.cond_eq_ite] at h
      split at h
      · rename_i hv
        split at h
        · rename_i t1 H1 h1
          cases h
          exact ⟨hd (id, ops) (by simp [drawn]) hv, evDraw_ok hc h1 hk⟩
        · cases h
      · cases h
    | false =>
      simp only [evC] at h
      split at h
      · rename_i t1 H1 h1; cases h; exact evOps_ok hc h1 hk
      · cases h
  | rangeFunc f ps x y _ _ => intro _ K tm tm' H H' x h; cases h
  | goto l => intro _ K tm tm' H H' x h; cases h
  | refuse why => intro _ K tm tm' H H' x h; cases h

theorem evF_ok (hC : COK P C) (hmix : P.follows .mixedOrders = true) {F : FuncId → Option EF} (hF : ∀ f e, F f = some e → EFOK P f e ∧ VOK e) {S : FuncId → List AV → Option AV}
    (hS : ∀ f args v, S f args = some v → ∀ H, SCalls P f args H (fun u K => u = v ∧ K = H)) (k : Nat) : ∀ n, CallOK P (evF F S C k n)
  | 0 => fun g args H v H' h => by cases h
  | n + 1 => by
    intro g args H v H' h
    simp only [evF] at h
    split at h
    · rename_i u hu; cases h; exact hS _ _ _ hu H
    · split at h
      · cases h
      · rename_i e he
        obtain ⟨⟨fn, h1, h2, h3, h4, h5⟩, hV⟩ := hF g e he
        simp only [Bool.cond_eq_ite] at h
        split at h
        · rename_i hlen
          have hlen' : args.length ≤ fn.ntmps := by rw [h4]; exact Nat.le_of_ble_eq_true hlen
          split at h
          · cases h
          · rename_i x tm H1 hx hev
            split at h
            · rename_i u hu
              cases h
              refine SCalls.of_body (D := e.D) hC hmix h1 h2 h3 hlen' ?_
              rw [h4, h5]
              refine evC_ok (evF_ok hC hmix hF hS k n) e.code hV hev ⟨?_, v, hu, rfl, rfl⟩
              cases x with
              | nrm => trivial
              | ret => trivial
              | ex i => exact (hx i rfl).elim
            · cases h
          · cases h
        · cases h
end
end Go.Abs
