/- Rules of a verification-condition layer over the library: frames, a ghost heap of blocks that no longer change, owned blocks, regions run in every order; rules for each operation; part 1. They hold of every program; no further condition. -/
import Derived.Tactics
import Derived.Orders
import Derived.KernelRfl
import Derived.WalkKit
set_option linter.all false
namespace Go.Brd
abbrev GH := Nat → Option Obj
abbrev Own := List (Nat × Obj)
def GH.le (h h' : GH) : Prop := ∀ b o, h b = some o → h' b = some o
theorem GH.le_refl (h : GH) : GH.le h h := fun _ _ e => e
theorem GH.le_trans {a b c : GH} (h : GH.le a b) (k : GH.le b c) : GH.le a c := fun x o e => k x o (h x o e)
def GH.ins (h : GH) (b : Nat) (o : Obj) : GH := fun x => if x = b then some o else h x
theorem GH.ins_same (h : GH) (b : Nat) (o : Obj) : GH.ins h b o b = some o := by simp [GH.ins]
theorem GH.le_ins {h : GH} {b : Nat} {o : Obj} (hb : h b = none) : GH.le h (GH.ins h b o) := by
 intro x p e;unfold GH.ins;split
 · subst x; rw [hb] at e; cases e
 · exact e
structure St (c : World) (h : GH) (L : Own) (w : World) : Prop where
 os : w.os = c.os
 tape : w.tape = c.tape
 output : w.output = c.output
 gh : ∀ b o, h b = some o → w.heap[b]? = some o
 own : ∀ b o, (b, o) ∈ L → w.heap[b]? = some o
 sep : ∀ b o, (b, o) ∈ L → h b = none
 nd : (L.map Prod.fst).Nodup
 dr : c.drawn ≤ w.drawn
def Ghost (h : GH) (L : Own) (h' : GH) (L' : Own) : Prop := ∀ c w, St c h L w → St c h' L' w
theorem Ghost.refl (h : GH) (L : Own) : Ghost h L h L := fun _ _ s => s
theorem Ghost.trans {h h' h'' : GH} {L L' L'' : Own} (a : Ghost h L h' L') (b : Ghost h' L' h'' L'') : Ghost h L h'' L'' := fun c w s => b c w (a c w s)
theorem qh {h : GH} {L L' : Own} (hs : L'.Sublist L) : Ghost h L h L' := fun _ _ s =>
 ⟨s.os, s.tape, s.output, s.gh, fun b o hm => s.own b o (hs.subset hm), fun b o hm => s.sep b o (hs.subset hm), (hs.map Prod.fst).nodup s.nd, s.dr⟩
theorem Ghost.perm {h : GH} {L L' : Own} (hs : L.Perm L') : Ghost h L h L' := fun _ _ s =>
 ⟨s.os, s.tape, s.output, s.gh, fun b o hm => s.own b o (hs.symm.subset hm), fun b o hm => s.sep b o (hs.symm.subset hm), (hs.map Prod.fst).nodup_iff.1 s.nd, s.dr⟩
theorem Ghost.freeze (h : GH) (L : Own) (b : Nat) (o : Obj) : Ghost h ((b, o) :: L) (h.ins b o) L := fun _ _ s =>
 ⟨s.os, s.tape, s.output, fun x p e => by
  unfold GH.ins at e;split at e
  · subst x; cases e; exact s.own b o (by simp)
  · exact s.gh x p e,
  fun x p hm => s.own x p (List.mem_cons_of_mem _ hm),
  fun x p hm => by
   unfold GH.ins;split
   · subst x
     have := s.nd;simp only [List.map_cons, List.nodup_cons] at this;exact (this.1 (List.mem_map.2 ⟨(b, p), hm, rfl⟩)).elim
   · exact s.sep x p (List.mem_cons_of_mem _ hm),
  by have := s.nd; simp only [List.map_cons, List.nodup_cons] at this; exact this.2, s.dr⟩
theorem St.free {c : World} {h : GH} {L : Own} {w : World} {b : Nat} {o : Obj} (s : St c h ((b, o) :: L) w) : h b = none := s.sep b o (by simp)
abbrev Fr := List (Nat × Value)
def Fr.get : Fr → Nat → Option Value
 | [], _ => none
 | (j, v) :: r, i => bif Nat.beq j i then some v else Fr.get r i
def Agrees (N : Nat) (s : Fr) (a : Act) : Prop := a.tmps.size = N ∧ a.defers = [] ∧ ∀ i v, Fr.get s i = some v → a.tmps.getD i undef = v
def Fr.Sub (t s : Fr) : Prop := ∀ i v, Fr.get t i = some v → Fr.get s i = some v
theorem Fr.Sub.refl (s : Fr) : Fr.Sub s s := fun _ _ h => h
theorem Fr.Sub.nil (s : Fr) : Fr.Sub [] s := fun _ _ h => by cases h
theorem Fr.Sub.cons {t s : Fr} {i : Nat} {v : Value} (h : Fr.get s i = some v) (k : Fr.Sub t s) : Fr.Sub ((i, v) :: t) s := by
 intro j u e;simp only [Fr.get] at e;cases hb : Nat.beq i j with
 | true => rw [hb] at e; have := Nat.eq_of_beq_eq_true hb; subst this; simp at e; rw [h, e]
 | false => rw [hb] at e; exact k j u (by simpa using e)
theorem Agrees.sub {N : Nat} {t s : Fr} {a : Act} (h : Agrees N s a) (k : Fr.Sub t s) : Agrees N t a := ⟨h.1, h.2.1, fun i v e => h.2.2 i v (k i v e)⟩
theorem Agrees.put {N : Nat} {s : Fr} {a : Act} {d : Nat} {v : Value} (h : Agrees N s a) (hd : d < N) : Agrees N ((d, v) :: s) (a.put (some d) v) := by
 refine ⟨by simp [Act.put, h.1], by simp [Act.put, h.2.1], ?_⟩;intro i u e;simp only [Fr.get] at e;cases hb : Nat.beq d i with
 | true =>
  rw [hb] at e; have := Nat.eq_of_beq_eq_true hb; subst this; simp at e; subst e;have : d < a.tmps.size := by rw [h.1]; exact hd
  simp [Act.put, Array.getD, this]
 | false =>
  rw [hb] at e;have hne : d ≠ i := fun x => by subst x; simp at hb
  have := h.2.2 i u (by simpa using e);rw [← this];simp only [Act.put, Array.getD_eq_getD_getElem?, Array.getElem?_setIfInBounds, if_neg hne]
theorem Agrees.putNone {N : Nat} {s : Fr} {a : Act} {v : Value} (h : Agrees N s a) : Agrees N s (a.put none v) := h
def evO (s : Fr) : Operand → Option Value
 | .tmp t => Fr.get s t
 | .const v => some v
 | .global g => some (.pointer (some ⟨g, 0, none⟩))
 | .func f => some (.func (.func f) #[] #[])
theorem evO_eval {N : Nat} {s : Fr} {a : Act} (h : Agrees N s a) {x : Operand} {v : Value} (e : evO s x = some v) : a.eval x = v := by
 cases x with
 | tmp t => exact h.2.2 t v e
 | const u => simp [evO] at e; simp [Act.eval, e]
 | global g => simp [evO] at e; simp [Act.eval, e]
 | func f => simp [evO] at e; simp [Act.eval, e]
abbrev Kont := Value → GH → Own → Prop
structure DoV (P : Program) (c : World) (m : Sem Value) (h : GH) (L : Own) (K : Kont) : Prop where
 run : ∀ w, St c h L w → ∃ v w' h' L', m.run P w = .ok v w' ∧ GH.le h h' ∧ St c h' L' w' ∧ K v h' L'
structure DoU (P : Program) (c : World) (m : Sem Unit) (h : GH) (L : Own) (K : Kont) : Prop where
 run : ∀ w, St c h L w → ∃ w' h' L', m.run P w = .ok () w' ∧ GH.le h h' ∧ St c h' L' w' ∧ K undef h' L'
structure DoR (P : Program) (c : World) (m : Sem Value) (h : GH) (Lr : Own) (K : Value → Prop) : Prop where
 run : ∃ v, (∀ w h' L', GH.le h h' → (∀ e ∈ Lr, e ∈ L') → St c h' L' w → m.run P w = .ok v w) ∧ K v
theorem DoR.toV {P : Program} {c : World} {m : Sem Value} {h : GH} {L : Own} {K : Kont} (hd : DoR P c m h L (fun v => K v h L)) : DoV P c m h L K :=
 let ⟨v, hr, hk⟩ := hd.run; ⟨fun w s => ⟨v, w, h, L, hr w h L (GH.le_refl h) (fun _ e => e) s, GH.le_refl h, s, hk⟩⟩
theorem DoR.mono {P : Program} {c : World} {m : Sem Value} {h : GH} {Lr : Own} {K K' : Value → Prop} (hd : DoR P c m h Lr K) (hk : ∀ v, K v → K' v) : DoR P c m h Lr K' :=
 let ⟨v, hr, hv⟩ := hd.run; ⟨v, hr, hk v hv⟩
def plain (P : Program) (f : FuncId) : Bool :=
 match P.funcs[f]? with
 | some fn => fn.body.isSome && !(fn.name == "runtime.NumGoroutine")
 | none => false
structure Fun (P : Program) (c : World) (f : FuncId) (args : Array Value) (h : GH) (L : Own) (K : Kont) : Prop where
 plain : plain P f = true
 run : ∀ w, St c h L w → Calls P f args w fun e w' => ∃ v h' L', e = .returned v ∧ GH.le h h' ∧ St c h' L' w' ∧ K v h' L'
theorem Fun.mono {P : Program} {c : World} {f : FuncId} {args : Array Value} {h : GH} {L : Own} {K K' : Kont} (hf : Fun P c f args h L K)
 (hk : ∀ v h' L', GH.le h h' → K v h' L' → K' v h' L') : Fun P c f args h L K' :=
 ⟨hf.plain, fun w s => (hf.run w s).mono fun _ _ ⟨v, h', L', e, hle, s', k⟩ => ⟨v, h', L', e, hle, s', hk v h' L' hle k⟩⟩
theorem Fun.ghost {P : Program} {c : World} {f : FuncId} {args : Array Value} {h h' : GH} {L L' : Own} {K : Kont} (hg : Ghost h L h' L') (hle : GH.le h h')
 (hf : Fun P c f args h' L' K) : Fun P c f args h L K :=
 ⟨hf.plain, fun w s => (hf.run w (hg c w s)).mono fun _ _ ⟨v, h1, L1, e, hle1, s', k⟩ => ⟨v, h1, L1, e, GH.le_trans hle hle1, s', k⟩⟩
structure Ext (P : Program) (c : World) (f : FuncId) (args : Array Value) (h : GH) (L : Own) (K : Kont) : Prop where
 run : ∀ w, St c h L w → ∃ v w' h' L', (callFunc f args).run P w = .ok (.value v) w' ∧ GH.le h h' ∧ St c h' L' w' ∧ K v h' L'
theorem Ext.mono {P : Program} {c : World} {f : FuncId} {args : Array Value} {h : GH} {L : Own} {K K' : Kont} (hf : Ext P c f args h L K) (hk : ∀ v h' L', GH.le h h' → K v h' L' → K' v h' L') : Ext P c f args h L K' :=
 ⟨fun w s => let ⟨v, w', h', L', r, hle, s', k⟩ := hf.run w s; ⟨v, w', h', L', r, hle, s', hk v h' L' hle k⟩⟩
theorem Ext.ghost {P : Program} {c : World} {f : FuncId} {args : Array Value} {h h' : GH} {L L' : Own} {K : Kont} (hg : Ghost h L h' L') (hle : GH.le h h') (hf : Ext P c f args h' L' K) : Ext P c f args h L K :=
 ⟨fun w s => let ⟨v, w', h1, L1, r, hle1, s', k⟩ := hf.run w (hg c w s); ⟨v, w', h1, L1, r, GH.le_trans hle hle1, s', k⟩⟩
structure DoCall (P : Program) (c : World) (f : Value) (args : Array Value) (h : GH) (L : Own) (K : Kont) : Prop where
 to : ∃ n first cap, f = .func (.func n) first cap ∧ (Fun P c n (first ++ args ++ cap) h L K ∨ Ext P c n (first ++ args ++ cap) h L K)
theorem DoV.mono {P : Program} {c : World} {m : Sem Value} {h : GH} {L : Own} {K K' : Kont} (hm : DoV P c m h L K) (hk : ∀ v h' L', GH.le h h' → K v h' L' → K' v h' L') : DoV P c m h L K' :=
 ⟨fun w s => let ⟨v, w', h', L', r, hle, s', k⟩ := hm.run w s; ⟨v, w', h', L', r, hle, s', hk v h' L' hle k⟩⟩
theorem DoV.ghost {P : Program} {c : World} {m : Sem Value} {h h' : GH} {L L' : Own} {K : Kont} (hg : Ghost h L h' L') (hle : GH.le h h') (hm : DoV P c m h' L' K) : DoV P c m h L K :=
 ⟨fun w s => let ⟨v, w', h1, L1, r, hle1, s', k⟩ := hm.run w (hg c w s); ⟨v, w', h1, L1, r, GH.le_trans hle hle1, s', k⟩⟩
theorem DoU.ghost {P : Program} {c : World} {m : Sem Unit} {h h' : GH} {L L' : Own} {K : Kont} (hg : Ghost h L h' L') (hle : GH.le h h') (hm : DoU P c m h' L' K) : DoU P c m h L K :=
 ⟨fun w s => let ⟨w', h1, L1, r, hle1, s', k⟩ := hm.run w (hg c w s); ⟨w', h1, L1, r, GH.le_trans hle hle1, s', k⟩⟩
theorem DoCall.ghost {P : Program} {c : World} {f : Value} {args : Array Value} {h h' : GH} {L L' : Own} {K : Kont} (hg : Ghost h L h' L') (hle : GH.le h h') (hm : DoCall P c f args h' L' K) : DoCall P c f args h L K :=
 let ⟨n, fi, ca, e, hf⟩ := hm.to; ⟨n, fi, ca, e, hf.imp (Fun.ghost hg hle) (Ext.ghost hg hle)⟩
theorem DoCall.mk0 {P : Program} {c : World} {n : FuncId} {fi ca args : Array Value} {h : GH} {L : Own} {K : Kont} (hf : Fun P c n (fi ++ args ++ ca) h L K) : DoCall P c (.func (.func n) fi ca) args h L K := ⟨n, fi, ca, rfl, .inl hf⟩
def with1 (s : Fr) (x : Operand) (k : Value → Prop) : Prop := match evO s x with
 | some v => k v
 | none => False
def with2 (s : Fr) (x y : Operand) (k : Value → Value → Prop) : Prop := with1 s x fun a => with1 s y fun b => k a b
def withO (s : Fr) (x : Option Operand) (k : Option Value → Prop) : Prop := match x with
 | none => k none
 | some x => with1 s x fun a => k (some a)
def withL (s : Fr) : List Operand → (List Value → Prop) → Prop
 | [], k => k []
 | x :: r, k => with1 s x fun v => withL s r fun vs => k (v :: vs)
def withP (s : Fr) : List (Nat × Operand) → (List (Nat × Value) → Prop) → Prop
 | [], k => k []
 | (i, x) :: r, k => with1 s x fun v => withP s r fun vs => k ((i, v) :: vs)
theorem with1_eval {N : Nat} {s : Fr} {a : Act} (ha : Agrees N s a) {x : Operand} {k : Value → Prop} (h : with1 s x k) : k (a.eval x) := by
 unfold with1 at h;split at h
 · rename_i v e; rw [evO_eval ha e]; exact h
 · exact h.elim
theorem withO_eval {N : Nat} {s : Fr} {a : Act} (ha : Agrees N s a) {x : Option Operand} {k : Option Value → Prop} (h : withO s x k) : k (x.map a.eval) := by
 cases x with
 | none => exact h
 | some x => exact with1_eval ha h
theorem withL_eval {N : Nat} {s : Fr} {a : Act} (ha : Agrees N s a) : ∀ {l : List Operand} {k : List Value → Prop}, withL s l k → k (l.map a.eval)
 | [], _, h => h
 | _ :: r, k, h => withL_eval (k := fun vs => k (_ :: vs)) ha (with1_eval (k := fun v => withL s r fun vs => k (v :: vs)) ha h)
theorem withP_eval {N : Nat} {s : Fr} {a : Act} (ha : Agrees N s a) : ∀ {l : List (Nat × Operand)} {k : List (Nat × Value) → Prop}, withP s l k → k (l.map fun p => (p.1, a.eval p.2))
 | [], _, h => h
 | (i, _) :: r, k, h => withP_eval (k := fun vs => k ((i, _) :: vs)) ha (with1_eval (k := fun v => withP s r fun vs => k ((i, v) :: vs)) ha h)
def eqG (op : BinOp) (t : TypeId) (x y : Operand) (a b : Value) : Sem Value := do eqGuard op t x y a b; binOp op t a b
def vcOp (P : Program) (c : World) (s : Fr) (h : GH) (Lr L : Own) (ty : TypeId) (K : Kont) : Op → Prop
 | .move x => with1 s x fun v => K v h L
 | .assign x => with1 s x fun v => K v h L
 | .pick x a b => with1 s x fun v => match v with
  | .bool true => with1 s a fun u => K u h L
  | .bool false => with1 s b fun u => K u h L
  | _ => False
 | .alloc e => DoV P c (Instr.alloc e true (.tuple #[])) h L K
 | .box e x => with1 s x fun v => DoV P c (Instr.box e v) h L K
 | .build t ps => withP s ps.toList fun vs => DoV P c (Instr.build t vs.toArray) h L K
 | .buildSlice t n ps => withP s ps.toList fun vs => DoV P c (Instr.buildSlice t n vs.toArray) h L K
 | .load t x => with1 s x fun v => DoR P c (Instr.loadAt t v) h Lr (fun z => K z h L)
 | .store t x y => with2 s x y fun v u => DoU P c (Instr.storeAt t v u) h L K
 | .nilCheck x => with1 s x fun v => match v with
  | .pointer (some a) => K (.pointer (some a)) h L
  | .func (.func f) fi ca => K (.func (.func f) fi ca) h L
  | _ => False
 | .binOp op t x y _ => with2 s x y fun a b => DoR P c (eqG op t x y a b) h Lr (fun z => K z h L)
 | .unOp op _ x => with1 s x fun v => DoR P c (Op.unary op v) h Lr (fun z => K z h L)
 | .convert src dst x => with1 s x fun v => match v with
  | .int k n => DoR P c (convert src dst (.int k n)) h Lr (fun z => K z h L)
  | v => DoV P c (convert src dst v) h L K
 | .makeInterface t x => with1 s x fun v => DoR P c (Instr.makeInterface t v) h Lr (fun z => K z h L)
 | .makeFunc fn fi ca => withL s fi.toList fun u => withL s ca.toList fun v => K (.func fn u.toArray v.toArray) h L
 | .makeMap t r => withO s r fun v => DoV P c (Instr.makeMap t v) h L K
 | .makeSlice t l m => with2 s l m fun a b => DoV P c (Instr.makeSlice t a b) h L K
 | .slice t x lo hi mx => with1 s x fun v => withO s lo fun a => withO s hi fun b => withO s mx fun m => DoR P c (Instr.sliceAt t v a b m) h Lr (fun z => K z h L)
 | .fieldAddr t x f => with1 s x fun v => DoR P c (Instr.fieldAt t v f) h Lr (fun z => K z h L)
 | .field t x f => with1 s x fun v => DoR P c (Instr.field t v f) h Lr (fun z => K z h L)
 | .indexAddr t x i => with2 s x i fun v u => DoR P c (Instr.indexAt t v u) h Lr (fun z => K z h L)
 | .index t x i => with2 s x i fun v u => DoR P c (Instr.index t v u) h Lr (fun z => K z h L)
 | .lookup t x i ok => with2 s x i fun v u => DoR P c (Instr.lookup t v u ok) h Lr (fun z => K z h L)
 | .mapUpdate t m k x => with1 s m fun a => with2 s k x fun b v => DoU P c (Instr.mapUpdate t a b v) h L K
 | .insert t m k x => with1 s m fun a => with2 s k x fun b v => DoU P c (Instr.mapUpdate t a b v) h L K
 | .mapEntry t m k => with2 s m k fun a b => DoV P c (Instr.mapEntry t a b) h L K
 | .entryStore t m k x => with1 s m fun a => with2 s k x fun b v => DoU P c (Instr.entryStore t a b v) h L K
 | .range t x => with1 s x fun v => DoV P c (Instr.range t v) h L K
 | .next it isS => with1 s it fun v => DoV P c (Instr.next v isS ty) h L K
 | .entry it => with1 s it fun v => DoV P c (Instr.entry v) h L K
 | .extract x i => with1 s x fun v => match v with
  | .tuple vs => match vs[i]? with
   | some u => K u h L
   | none => False
  | _ => False
 | .call { callee := .value f, args, argTypes := _ } => with1 s f fun fv => withL s args.toList fun vs => DoCall P c fv vs.toArray h L K
 | .call { callee := .builtin .len, args, argTypes } => withL s args.toList fun vs => DoR P c (Builtin.len_ argTypes ty vs.toArray) h Lr (fun z => K z h L)
 | .call { callee := .builtin .cap, args, argTypes } => withL s args.toList fun vs => DoR P c (Builtin.cap_ argTypes ty vs.toArray) h Lr (fun z => K z h L)
 | .call { callee := .builtin .append, args, argTypes } => withL s args.toList fun vs => DoV P c (Builtin.append_ argTypes ty vs.toArray) h L K
 | .call { callee := .builtin .copy, args, argTypes } => withL s args.toList fun vs => DoV P c (Builtin.copy_ argTypes ty vs.toArray) h L K
 | .call { callee := .builtin .clear, args, argTypes } => withL s args.toList fun vs => DoV P c (Builtin.clear_ argTypes ty vs.toArray) h L K
 | .call { callee := .builtin .max, args, argTypes } => withL s args.toList fun vs => DoR P c (Builtin.max_ argTypes ty vs.toArray) h Lr (fun z => K z h L)
 | .call { callee := .builtin .min, args, argTypes } => withL s args.toList fun vs => DoR P c (Builtin.min_ argTypes ty vs.toArray) h Lr (fun z => K z h L)
 | _ => False
def Reach (c : World) (K : Kont) (h : GH) (o : Oper) (a : Act) (next : Act → World → Prop) : Prop := ∀ v w' h' L', GH.le h h' → St c h' L' w' → K v h' L' → next (a.put o.dst v) w'
section
variable {P : Program} {c : World} {h : GH} {L : Own} {K : Kont} {o : Oper} {a : Act} {w : World} {next : Act → World → Prop} {Q : Exit → Act → World → Prop}
theorem wp_of_doV {m : Sem Value} (he : execOp a.eval o = (do pure (.value (← m)))) (hs : St c h L w) (hd : DoV P c m h L K) (hn : Reach c K h o a next) : o.wp P a w next Q := by
 obtain ⟨v, w', h', L', hr, hle, hs', hk⟩ := hd.run w hs
 have : (execOp a.eval o).run P w = .ok (.value v) w' := by
  rw [he];rw [Sem.run_bind, hr]; rfl
 unfold Oper.wp;rw [this, Oper.upon_value];exact hn v w' h' L' hle hs' hk
theorem wp_of_doU {m : Sem Unit} (he : execOp a.eval o = (do m; pure .skip)) (hs : St c h L w) (hd : DoU P c m h L K) (hn : Reach c K h o a next) : o.wp P a w next Q := by
 obtain ⟨w', h', L', hr, hle, hs', hk⟩ := hd.run w hs
 have : (execOp a.eval o).run P w = .ok .skip w' := by
  rw [he];rw [Sem.run_bind, hr]; rfl
 unfold Oper.wp;rw [this, Oper.upon_skip];exact hn undef w' h' L' hle hs' hk
theorem wp_of_pure {v : Value} (he : execOp a.eval o = pure (.value v)) (hs : St c h L w) (hd : K v h L) (hn : Reach c K h o a next) : o.wp P a w next Q := by
 unfold Oper.wp;rw [he];show o.upon P a next Q (.ok (.value v) w)
 rw [Oper.upon_value];exact hn v w h L (GH.le_refl h) hs hd
end
end Go.Brd
namespace Go.Brd
section
variable {P : Program} {c : World} {N : Nat} {s : Fr} {h : GH} {L : Own} {K : Kont} {o : Oper} {a : Act} {w : World} {next : Act → World → Prop} {Q : Exit → Act → World → Prop}
theorem wp_of_doCall {f : Value} {args : Array Value} {o0 : Operand} {as0 : Array Operand} {ts0 : Array TypeId} (ho : o.op = .call { callee := .value o0, args := as0, argTypes := ts0 }) (hf : a.eval o0 = f) (ha : as0.map a.eval = args)
 (hs : St c h L w) (hd : DoCall P c f args h L K) (hn : Reach c K h o a next) : o.wp P a w next Q := by
 obtain ⟨n, fi, ca, rfl, hfun⟩ := hd.to
 have hx0 : (execOp a.eval o).run P w = (callFunc n (fi ++ args ++ ca)).run P w := by
  unfold execOp;rw [ho];simp only [resolve, hf, ha, Deferred.ofValue, invoke];rfl
 refine Or.elim hfun (fun hfun => ?_) (fun hext => by
  obtain ⟨v, w', h', L', hr, hle, hs', hk⟩ := hext.run w hs;unfold Oper.wp;rw [hx0, hr, Oper.upon_value];exact hn v w' h' L' hle hs' hk)
 have hp := hfun.plain
 have hr : (execOp a.eval o).run P w = .ok (.enter n (fi ++ args ++ ca)) w := by
  rw [hx0];unfold plain at hp;cases hfn : P.funcs[n]? with
  | none => rw [hfn] at hp; cases hp
  | some fn =>
   rw [hfn] at hp;simp only [Bool.and_eq_true, Bool.not_eq_true', beq_eq_false_iff_ne] at hp;have hb : fn.body.isNone = false := by cases hb : fn.body <;> simp_all
   simp only [callFunc, program];show (Sem.run P _ w) = _;have hnm : (fn.name == "runtime.NumGoroutine") = false := by simp [hp.2]
   simp only [bind, pure, Sem.bind, Sem.run, hfn, hnm, hb, if_false, Bool.false_eq_true]
 unfold Oper.wp;rw [hr, Oper.upon_enter];refine (hfun.run w hs).mono ?_;rintro e w' ⟨v, h', L', rfl, hle, hs', hk⟩;exact hn v w' h' L' hle hs' hk
theorem with2_eval (ha : Agrees N s a) {x y : Operand} {k : Value → Value → Prop} (hh : with2 s x y k) : k (a.eval x) (a.eval y) :=
 with1_eval ha (k := fun b => k (a.eval x) b) (with1_eval ha (k := fun v => with1 s y fun b => k v b) hh)
theorem array_map_toList (x : Array Operand) (f : Operand → Value) : (x.toList.map f).toArray = x.map f := by
 apply Array.toList_inj.1; simp
theorem array_mapP_toList (x : Array (Nat × Operand)) (f : Operand → Value) : (x.toList.map fun p => (p.1, f p.2)).toArray = x.map fun (i, y) => (i, f y) := by
 apply Array.toList_inj.1; simp
theorem wp_of_builtin {b : Builtin} {m : Sem Value} {m' : Array Value → Sem Value} {args : Array Operand} {ats : Array TypeId} (ho : o.op = .call { callee := .builtin b, args := args, argTypes := ats })
 (hb : ∀ cs vs, builtin b ats o.type cs vs = (do pure (.value (← m' vs)))) (hm : m' (args.map a.eval) = m)
 (hs : St c h L w) (hd : DoV P c m h L K) (hn : Reach c K h o a next) : o.wp P a w next Q := by
 refine wp_of_doV ?_ hs hd hn;unfold execOp;rw [ho];simp only [resolve, invoke];show Sem.bind (Sem.pure _) _ = _;simp only [Sem.bind];rw [← hm];exact hb _ _
theorem DoR.at {m : Sem Value} {Lr : Own} (hLr : ∀ e ∈ Lr, e ∈ L) (hd : DoR P c m h Lr (fun z => K z h L)) : DoV P c m h L K :=
 let ⟨v, hr, hk⟩ := hd.run; ⟨fun w s => ⟨v, w, h, L, hr w h L (GH.le_refl h) hLr s, GH.le_refl h, s, hk⟩⟩
theorem wp_of_doR {m : Sem Value} {Lr : Own} (he : execOp a.eval o = (do pure (.value (← m)))) (hs : St c h L w) (hLr : ∀ e ∈ Lr, e ∈ L) (hd : DoR P c m h Lr (fun z => K z h L)) (hn : Reach c K h o a next) : o.wp P a w next Q :=
 wp_of_doV he hs (DoR.at hLr hd) hn
set_option maxHeartbeats 4000000 in
theorem vcOp_sound {Lr : Own} (ha : Agrees N s a) (hs : St c h L w) (hLr : ∀ e ∈ Lr, e ∈ L) (hd : vcOp P c s h Lr L o.type K o.op) (hn : Reach c K h o a next) : o.wp P a w next Q := by
 obtain ⟨dst, op, ty, pos, after, guard⟩ := o;simp only at hd;cases op with
 | move x => exact wp_of_pure rfl hs (with1_eval ha hd) hn
 | assign x => exact wp_of_pure rfl hs (with1_eval ha hd) hn
 | pick x y z =>
  have := with1_eval ha hd;cases hx : a.eval x with
  | bool t =>
   rw [hx] at this;cases t with
   | true => exact wp_of_pure (v := a.eval y) (by simp only [execOp, hx, asBool]; rfl) hs (with1_eval (k := fun u => K u h L) ha this) hn
   | false => exact wp_of_pure (v := a.eval z) (by simp only [execOp, hx, asBool]; rfl) hs (with1_eval (k := fun u => K u h L) ha this) hn
  | _ => rw [hx] at this; exact this.elim
 | alloc e => exact wp_of_doV rfl hs hd hn
 | box e x => exact wp_of_doV rfl hs (with1_eval (k := fun v => DoV P c (Instr.box e v) h L K) ha hd) hn
 | build t ps =>
  refine wp_of_doV (m := Instr.build t (ps.map fun (i, y) => (i, a.eval y))) rfl hs ?_ hn;have := withP_eval (k := fun vs => DoV P c (Instr.build t vs.toArray) h L K) ha hd;rw [array_mapP_toList] at this; exact this
 | buildSlice t n ps =>
  refine wp_of_doV (m := Instr.buildSlice t n (ps.map fun (i, y) => (i, a.eval y))) rfl hs ?_ hn;have := withP_eval (k := fun vs => DoV P c (Instr.buildSlice t n vs.toArray) h L K) ha hd;rw [array_mapP_toList] at this; exact this
 | load t x => exact wp_of_doR rfl hs hLr (with1_eval (k := fun v => DoR P c (Instr.loadAt t v) h Lr (fun z => K z h L)) ha hd) hn
 | store t x y => exact wp_of_doU rfl hs (with2_eval (k := fun v u => DoU P c (Instr.storeAt t v u) h L K) ha hd) hn
 | nilCheck x =>
  have := with1_eval ha hd;cases hx : a.eval x with
  | pointer p =>
   rw [hx] at this;cases p with
   | none => exact this.elim
   | some q => exact wp_of_pure (v := .pointer (some q)) (by simp only [execOp, hx]) hs this hn
  | func fn fi ca =>
   rw [hx] at this;cases fn with
   | func f => exact wp_of_pure (v := .func (.func f) fi ca) (by simp only [execOp, hx]) hs this hn
   | _ => exact this.elim
  | _ => rw [hx] at this; exact this.elim
 | binOp op t x y yt => exact wp_of_doR (m := eqG op t x y (a.eval x) (a.eval y)) rfl hs hLr (with2_eval (k := fun u v => DoR P c (eqG op t x y u v) h Lr (fun z => K z h L)) ha hd) hn
 | unOp op t x => exact wp_of_doR rfl hs hLr (with1_eval (k := fun v => DoR P c (Op.unary op v) h Lr (fun z => K z h L)) ha hd) hn
 | convert src dst x =>
  have h1 := with1_eval ha hd;cases hx : a.eval x with
  | int k n => rw [hx] at h1; exact wp_of_doR (m := convert src dst (.int k n)) (by simp only [execOp, hx]) hs hLr h1 hn
  | _ => rw [hx] at h1; exact wp_of_doV (m := convert src dst _) (by simp only [execOp, hx]) hs h1 hn
 | makeInterface t x => exact wp_of_doR rfl hs hLr (with1_eval (k := fun v => DoR P c (Instr.makeInterface t v) h Lr (fun z => K z h L)) ha hd) hn
 | makeFunc fn fi ca =>
  have h1 := withL_eval (k := fun u => withL s ca.toList fun v => K (.func fn u.toArray v.toArray) h L) ha hd;have h2 := withL_eval (k := fun v => K (.func fn (fi.toList.map a.eval).toArray v.toArray) h L) ha h1;rw [array_map_toList, array_map_toList] at h2;exact wp_of_pure rfl hs h2 hn
 | makeMap t r => exact wp_of_doV rfl hs (withO_eval (k := fun v => DoV P c (Instr.makeMap t v) h L K) ha hd) hn
 | makeSlice t l m => exact wp_of_doV rfl hs (with2_eval (k := fun u v => DoV P c (Instr.makeSlice t u v) h L K) ha hd) hn
 | slice t x lo hi mx =>
  have h1 := with1_eval (k := fun v => withO s lo fun a => withO s hi fun b => withO s mx fun m => DoR P c (Instr.sliceAt t v a b m) h Lr (fun z => K z h L)) ha hd;have h2 := withO_eval (k := fun l => withO s hi fun b => withO s mx fun m => DoR P c (Instr.sliceAt t (a.eval x) l b m) h Lr (fun z => K z h L)) ha h1;have h3 := withO_eval (k := fun b => withO s mx fun m => DoR P c (Instr.sliceAt t (a.eval x) (lo.map a.eval) b m) h Lr (fun z => K z h L)) ha h2;exact wp_of_doR rfl hs hLr (withO_eval (k := fun m => DoR P c (Instr.sliceAt t (a.eval x) (lo.map a.eval) (hi.map a.eval) m) h Lr (fun z => K z h L)) ha h3) hn
 | fieldAddr t x f => exact wp_of_doR rfl hs hLr (with1_eval (k := fun v => DoR P c (Instr.fieldAt t v f) h Lr (fun z => K z h L)) ha hd) hn
 | field t x f => exact wp_of_doR rfl hs hLr (with1_eval (k := fun v => DoR P c (Instr.field t v f) h Lr (fun z => K z h L)) ha hd) hn
 | indexAddr t x i => exact wp_of_doR rfl hs hLr (with2_eval (k := fun u v => DoR P c (Instr.indexAt t u v) h Lr (fun z => K z h L)) ha hd) hn
 | index t x i => exact wp_of_doR rfl hs hLr (with2_eval (k := fun u v => DoR P c (Instr.index t u v) h Lr (fun z => K z h L)) ha hd) hn
 | lookup t x i ok => exact wp_of_doR rfl hs hLr (with2_eval (k := fun u v => DoR P c (Instr.lookup t u v ok) h Lr (fun z => K z h L)) ha hd) hn
 | mapUpdate t m k x =>
  have h1 := with1_eval (k := fun u => with2 s k x fun b v => DoU P c (Instr.mapUpdate t u b v) h L K) ha hd;exact wp_of_doU rfl hs (with2_eval (k := fun b v => DoU P c (Instr.mapUpdate t (a.eval m) b v) h L K) ha h1) hn
 | insert t m k x =>
  have h1 := with1_eval (k := fun u => with2 s k x fun b v => DoU P c (Instr.mapUpdate t u b v) h L K) ha hd;exact wp_of_doU rfl hs (with2_eval (k := fun b v => DoU P c (Instr.mapUpdate t (a.eval m) b v) h L K) ha h1) hn
 | mapEntry t m k => exact wp_of_doV rfl hs (with2_eval (k := fun u v => DoV P c (Instr.mapEntry t u v) h L K) ha hd) hn
 | entryStore t m k x =>
  have h1 := with1_eval (k := fun u => with2 s k x fun b v => DoU P c (Instr.entryStore t u b v) h L K) ha hd;exact wp_of_doU rfl hs (with2_eval (k := fun b v => DoU P c (Instr.entryStore t (a.eval m) b v) h L K) ha h1) hn
 | range t x => exact wp_of_doV rfl hs (with1_eval (k := fun v => DoV P c (Instr.range t v) h L K) ha hd) hn
 | next it isS => exact wp_of_doV rfl hs (with1_eval (k := fun v => DoV P c (Instr.next v isS ty) h L K) ha hd) hn
 | entry it => exact wp_of_doV rfl hs (with1_eval (k := fun v => DoV P c (Instr.entry v) h L K) ha hd) hn
 | extract x i =>
  have := with1_eval ha hd;cases hx : a.eval x with
  | tuple vs =>
   rw [hx] at this;cases hv : vs[i]? with
   | none => simp only [hv] at this
   | some u => simp only [hv] at this; exact wp_of_pure (v := u) (by simp only [execOp, hx, Instr.extract, hv]; rfl) hs this hn
  | _ => rw [hx] at this; exact this.elim
 | call cl =>
  obtain ⟨callee, args, ats⟩ := cl;cases callee with
  | value f =>
   have h1 := with1_eval (k := fun fv => withL s args.toList fun vs => DoCall P c fv vs.toArray h L K) ha hd;have h2 := withL_eval (k := fun vs => DoCall P c (a.eval f) vs.toArray h L K) ha h1;rw [array_map_toList] at h2;exact wp_of_doCall rfl rfl rfl hs h2 hn
  | invoke r n => exact hd.elim
  | builtin b =>
   cases b with
   | len =>
    have h1 := withL_eval (k := fun vs => DoR P c (Builtin.len_ ats ty vs.toArray) h Lr (fun z => K z h L)) ha hd;rw [array_map_toList] at h1;exact wp_of_builtin (m' := fun vs => Builtin.len_ ats ty vs) rfl (fun _ _ => rfl) rfl hs (DoR.at hLr h1) hn
   | cap =>
    have h1 := withL_eval (k := fun vs => DoR P c (Builtin.cap_ ats ty vs.toArray) h Lr (fun z => K z h L)) ha hd;rw [array_map_toList] at h1;exact wp_of_builtin (m' := fun vs => Builtin.cap_ ats ty vs) rfl (fun _ _ => rfl) rfl hs (DoR.at hLr h1) hn
   | append =>
    have h1 := withL_eval (k := fun vs => DoV P c (Builtin.append_ ats ty vs.toArray) h L K) ha hd;rw [array_map_toList] at h1;exact wp_of_builtin (m' := fun vs => Builtin.append_ ats ty vs) rfl (fun _ _ => rfl) rfl hs h1 hn
   | copy =>
    have h1 := withL_eval (k := fun vs => DoV P c (Builtin.copy_ ats ty vs.toArray) h L K) ha hd;rw [array_map_toList] at h1;exact wp_of_builtin (m' := fun vs => Builtin.copy_ ats ty vs) rfl (fun _ _ => rfl) rfl hs h1 hn
   | clear =>
    have h1 := withL_eval (k := fun vs => DoV P c (Builtin.clear_ ats ty vs.toArray) h L K) ha hd;rw [array_map_toList] at h1;exact wp_of_builtin (m' := fun vs => Builtin.clear_ ats ty vs) rfl (fun _ _ => rfl) rfl hs h1 hn
   | max =>
    have h1 := withL_eval (k := fun vs => DoR P c (Builtin.max_ ats ty vs.toArray) h Lr (fun z => K z h L)) ha hd;rw [array_map_toList] at h1;exact wp_of_builtin (m' := fun vs => Builtin.max_ ats ty vs) rfl (fun _ _ => rfl) rfl hs (DoR.at hLr h1) hn
   | min =>
    have h1 := withL_eval (k := fun vs => DoR P c (Builtin.min_ ats ty vs.toArray) h Lr (fun z => K z h L)) ha hd;rw [array_map_toList] at h1;exact wp_of_builtin (m' := fun vs => Builtin.min_ ats ty vs) rfl (fun _ _ => rfl) rfl hs (DoR.at hLr h1) hn
   | _ => exact hd.elim
 | _ => exact hd.elim
end
end Go.Brd
namespace Go.Brd
def updF (s : Fr) : Option Tmp → Value → Fr
 | some d, v => (d, v) :: s
 | none, _ => s
abbrev Post := Fr → GH → Own → Prop
structure DoDraw (P : Program) (c : World) (N : Nat) (ops : Array Oper) (s : Fr) (h : GH) (L : Own) (Q : Post) : Prop where
 run : ∀ (a : Act) (w : World) (t : Nat) (R : Exit → Act → World → Prop), Agrees N s a → St c h L w → (∀ a' w' s' h' L', Agrees N s' a' → GH.le h h' → St c h' L' w' → Q s' h' L' → R .normal a' w') →
  wpOps P ops R (Region.schedule (P.follows .mixedOrders) ops t) a w
def vcOps (P : Program) (c : World) (ops : Array Oper) : List Oper → Fr → GH → Own → Post → Prop
 | [], s, h, L, Q => Q s h L
 | { dst, op, type, pos := _, after := _, guard := none } :: r, s, h, L, Q => vcOp P c s h L L type (fun v h' L' => vcOps P c ops r (updF s dst v) h' L' Q) op
 | { dst, op, type, pos := _, after := _, guard := some (j, want) } :: r, s, h, L, Q =>
  match (ops[j]?).bind (·.dst) with
  | some d => match Fr.get s d with
   | some (.bool true) => bif want then vcOp P c s h L L type (fun v h' L' => vcOps P c ops r (updF s dst v) h' L' Q) op else vcOps P c ops r (updF s dst undef) h L Q
   | some (.bool false) => bif want then vcOps P c ops r (updF s dst undef) h L Q else vcOp P c s h L L type (fun v h' L' => vcOps P c ops r (updF s dst v) h' L' Q) op
   | some (.tuple _) => vcOps P c ops r (updF s dst undef) h L Q
   | _ => False
  | none => False
structure DoLoop (P : Program) (c : World) (B : Fr → GH → Own → (Exit → Post) → Prop) (s : Fr) (h : GH) (L : Own) (Q : Exit → Post) : Prop where
 ex : ∃ I : Nat → Post, (∃ n s0 h0 L0, Ghost h L h0 L0 ∧ GH.le h h0 ∧ Fr.Sub s0 s ∧ I n s0 h0 L0) ∧
  ∀ n s1 h1 L1, GH.le h h1 → I n s1 h1 L1 → B s1 h1 L1 (fun e s' h' L' => match e with
   | .normal => ∃ m s2 h2 L2, m < n ∧ Ghost h' L' h2 L2 ∧ GH.le h' h2 ∧ Fr.Sub s2 s' ∧ I m s2 h2 L2
   | e => Q e s' h' L')
structure DoRet (rs : List ResultVar) (s : Fr) (h : GH) (L : Own) (P : Program) (c : World) (K : Kont) : Prop where
 run : ∀ (tmps : Array Value) (w : World) (fn : Func), fn.results.toList = rs → (∀ i v, Fr.get s i = some v → tmps.getD i undef = v) → St c h L w →
  ∃ v h' L', (results fn tmps).run P w = .ok v w ∧ GH.le h h' ∧ St c h' L' w ∧ K v h' L'
def seqQ (next : Post) (Q : Exit → Post) : Exit → Post
 | .normal => next
 | e => Q e
def blockQ (id : Nat) (Q : Exit → Post) : Exit → Post
 | .exit i => bif Nat.beq i id then Q .normal else Q (.exit i)
 | e => Q e
def vc (P : Program) (c : World) (N : Nat) : Code → Fr → GH → Own → (Exit → Post) → Prop
 | .skip, s, h, L, Q => Q .normal s h L
 | .seq a b, s, h, L, Q => vc P c N a s h L (seqQ (fun s h L => vc P c N b s h L Q) Q)
 | .cond x a b, s, h, L, Q => with1 s x fun v => match v with
  | .bool true => vc P c N a s h L Q
  | .bool false => vc P c N b s h L Q
  | _ => False
 | .block id b, s, h, L, Q => vc P c N b s h L (blockQ id Q)
 | .loop b, s, h, L, Q => DoLoop P c (fun s h L Q => vc P c N b s h L Q) s h L Q
 | .exit id, s, h, L, Q => Q (.exit id) s h L
 | .ret, s, h, L, Q => Q .ret s h L
 | .region _ ops false, s, h, L, Q => vcOps P c ops ops.toList s h L (Q .normal)
 | .region _ ops true, s, h, L, Q => DoDraw P c N ops s h L (Q .normal)
 | _, _, _, _, _ => False
def dstOk (N : Nat) (o : Oper) : Bool := match o.dst with
 | some d => Nat.blt d N
 | none => true
def slotsOk (N : Nat) : Code → Bool
 | .region _ ops _ => ops.toList.all (dstOk N)
 | .seq a b => slotsOk N a && slotsOk N b
 | .cond _ a b => slotsOk N a && slotsOk N b
 | .block _ b => slotsOk N b
 | .loop b => slotsOk N b
 | _ => true
def Good (N : Nat) (c : World) (h0 : GH) (Q : Exit → Post) (e : Exit) (a : Act) (w : World) : Prop := ∃ s h L, Agrees N s a ∧ GH.le h0 h ∧ St c h L w ∧ Q e s h L
section
variable {P : Program} {c : World} {N : Nat}
theorem Agrees.upd {s : Fr} {a : Act} {o : Oper} {v : Value} (ha : Agrees N s a) (hd : dstOk N o = true) : Agrees N (updF s o.dst v) (a.put o.dst v) := by
 unfold dstOk at hd;cases ho : o.dst with
 | none => exact ha
 | some d => rw [ho] at hd; exact ha.put (Nat.blt_eq.mp hd)
theorem yielded_get {s : Fr} {a : Act} (ha : Agrees N s a) {ops : Array Oper} {j d : Nat} (hj : (ops[j]?).bind (·.dst) = some d) {v : Value} (hv : Fr.get s d = some v) (hN : d < N) :
 yielded ops a.tmps j = match v with
  | .bool b => some b
  | _ => none := by
 have hd := ha.2.2 d v hv;have hsz : d < a.tmps.size := by rw [ha.1]; exact hN
 unfold yielded;rw [hj]
 have : a.tmps[d]? = some v := by
  rw [Array.getElem?_eq_getElem hsz]; simp [Array.getD, hsz] at hd; rw [hd]
 simp only [Option.bind_some, this];cases v <;> rfl
theorem vcOps_sound {ops : Array Oper} {Q : Post} {R : Exit → Act → World → Prop} (hall : ops.toList.all (dstOk N) = true) :
 ∀ (l : List Oper), l.all (dstOk N) = true → ∀ (s : Fr) (h : GH) (L : Own) (a : Act) (w : World), Agrees N s a → St c h L w → vcOps P c ops l s h L Q →
  (∀ a' w' s' h' L', Agrees N s' a' → GH.le h h' → St c h' L' w' → Q s' h' L' → R .normal a' w') → wpList P ops R l a w := by
 intro l
 induction l with
 | nil => intro _ s h L a w ha hs hv hr; exact hr a w s h L ha (GH.le_refl h) hs hv
 | cons o r ih =>
  intro hl s h L a w ha hs hv hr;simp only [List.all_cons, Bool.and_eq_true] at hl
  have hrun : vcOp P c s h L L o.type (fun v h' L' => vcOps P c ops r (updF s o.dst v) h' L' Q) o.op → o.wp P a w (wpList P ops R r) R := fun hv =>
   vcOp_sound ha hs (fun _ e => e) hv fun v w' h' L' hle hs' hk => ih hl.2 _ h' L' _ w' (ha.upd hl.1) hs' hk fun a' w'' s' h'' L'' ha' hle' hs'' hq => hr a' w'' s' h'' L'' ha' (GH.le_trans hle hle') hs'' hq
  have hskip : vcOps P c ops r (updF s o.dst undef) h L Q → wpList P ops R r (a.put o.dst undef) w := fun hv =>
   ih hl.2 _ h L _ w (ha.upd hl.1) hs hv hr
  obtain ⟨dst, op, type, pos, after, guard⟩ := o;unfold wpList;cases guard with
  | none => rw [if_pos (by simp [Region.wanted])]; exact .inl (hrun hv)
  | some g =>
   obtain ⟨j, want⟩ := g;simp only [vcOps] at hv;split at hv
   · rename_i d hj
     have hdN : d < N := by
      cases ho : ops[j]? with
      | none => rw [ho] at hj; cases hj
      | some o' =>
       rw [ho] at hj;have : dstOk N o' = true := List.all_eq_true.1 hall o' (by rw [Array.mem_toList_iff]; exact Array.mem_of_getElem? ho);have hj' : o'.dst = some d := hj;rw [dstOk, hj'] at this;exact Nat.blt_eq.mp this
     split at hv
     · rename_i hb
       have hy := yielded_get ha hj hb hdN;cases want with
       | true => rw [if_pos (by simp [Region.wanted, hy])]; exact .inl (hrun hv)
       | false => rw [if_neg (by simp [Region.wanted, hy])]; exact hskip hv
     · rename_i hb
       have hy := yielded_get ha hj hb hdN;cases want with
       | true => rw [if_neg (by simp [Region.wanted, hy])]; exact hskip hv
       | false => rw [if_pos (by simp [Region.wanted, hy])]; exact .inl (hrun hv)
     · rename_i vs hb
       have hy := yielded_get ha hj hb hdN;rw [if_neg (by simp [Region.wanted, hy])]; exact hskip hv
     · exact hv.elim
   · exact hv.elim
theorem Good.mono {h0 : GH} {Q Q' : Exit → Post} {e : Exit} {a : Act} {w : World} (hq : ∀ s h L, GH.le h0 h → Q e s h L → Q' e s h L) (hg : Good N c h0 Q e a w) : Good N c h0 Q' e a w :=
 let ⟨s, h, L, ha, hl, hs, q⟩ := hg; ⟨s, h, L, ha, hl, hs, hq s h L hl q⟩
theorem vc_sound : ∀ (k : Code) (Q : Exit → Post) (s : Fr) (h : GH) (L : Own) (a : Act) (w : World), slotsOk N k = true → Agrees N s a → St c h L w → vc P c N k s h L Q →
 k.wp P (Good N c h Q) a w := by
 intro k
 induction k with
 | skip => intro Q s h L a w _ ha hs hv; exact wp_skip ⟨s, h, L, ha, GH.le_refl h, hs, hv⟩
 | exit id => intro Q s h L a w _ ha hs hv; exact wp_exit ⟨s, h, L, ha, GH.le_refl h, hs, hv⟩
 | ret => intro Q s h L a w _ ha hs hv; exact wp_ret ⟨s, h, L, ha, GH.le_refl h, hs, hv⟩
 | region id ops draw =>
  intro Q s h L a w hok ha hs hv;cases draw with
  | false =>
   refine wp_region_list (vcOps_sound hok ops.toList hok s h L a w ha hs hv ?_);intro a' w' s' h' L' ha' hle hs' hq;exact ⟨s', h', L', ha', hle, hs', hq⟩
  | true =>
   refine wp_region_draw fun t => hv.run a _ t _ ha ⟨hs.os, hs.tape, hs.output, hs.gh, hs.own, hs.sep, hs.nd, Nat.le_succ_of_le hs.dr⟩ ?_
   intro a' w' s' h' L' ha' hle hs' hq;exact ⟨s', h', L', ha', hle, hs', hq⟩
 | seq x y ihx ihy =>
  intro Q s h L a w hok ha hs hv;simp only [slotsOk, Bool.and_eq_true] at hok;refine wp_seq (Code.wp_mono ?_ (ihx _ s h L a w hok.1 ha hs hv));rintro e a' w' ⟨s', h', L', ha', hle, hs', hq⟩;cases e with
  | normal =>
   refine Code.wp_mono ?_ (ihy Q s' h' L' a' w' hok.2 ha' hs' hq);rintro e a'' w'' ⟨s2, h2, L2, ha2, hle2, hs2, hq2⟩;exact ⟨s2, h2, L2, ha2, GH.le_trans hle hle2, hs2, hq2⟩
  | _ => exact ⟨s', h', L', ha', hle, hs', hq⟩
 | cond x y z ihy ihz =>
  intro Q s h L a w hok ha hs hv;simp only [slotsOk, Bool.and_eq_true] at hok;have := with1_eval ha hv;cases hx : a.eval x with
  | bool t =>
   rw [hx] at this;cases t with
   | true => exact wp_cond_true hx (ihy Q s h L a w hok.1 ha hs this)
   | false => exact wp_cond_false hx (ihz Q s h L a w hok.2 ha hs this)
  | _ => rw [hx] at this; exact this.elim
 | block id b ih =>
  intro Q s h L a w hok ha hs hv;refine wp_block (Code.wp_mono ?_ (ih _ s h L a w hok ha hs hv));rintro e a' w' ⟨s', h', L', ha', hle, hs', hq⟩;cases e with
  | exit i =>
   unfold Exit.inBlock;by_cases hi : i = id
   · subst hi
     simp only [if_true];refine ⟨s', h', L', ha', hle, hs', ?_⟩
     simpa [blockQ] using hq
   · simp only [hi, if_false]
     refine ⟨s', h', L', ha', hle, hs', ?_⟩
     have hbq : Nat.beq i id = false := by
      cases hb : Nat.beq i id with
      | true => exact (hi (Nat.eq_of_beq_eq_true hb)).elim
      | false => rfl
     simpa [blockQ, hbq] using hq
  | _ => exact ⟨s', h', L', ha', hle, hs', hq⟩
 | loop b ih =>
  intro Q s h L a w hok ha hs hv;obtain ⟨I, ⟨n, s0, h0, L0, hg, hle, hsub, hI⟩, hround⟩ := hv.ex
  have key : ∀ n a w, (∃ s1 h1 L1, Agrees N s1 a ∧ GH.le h h1 ∧ St c h1 L1 w ∧ I n s1 h1 L1) →
   b.wp P (fun e a' w' => match e with
    | .normal => ∃ m, m < n ∧ ∃ s1 h1 L1, Agrees N s1 a' ∧ GH.le h h1 ∧ St c h1 L1 w' ∧ I m s1 h1 L1
    | e => Good N c h Q e a' w') a w := by
   rintro n a w ⟨s1, h1, L1, ha1, hle1, hs1, hI1⟩;refine Code.wp_mono ?_ (ih _ s1 h1 L1 a w hok ha1 hs1 (hround n s1 h1 L1 hle1 hI1));rintro e a' w' ⟨s', h', L', ha', hle', hs', hq⟩;cases e with
   | normal =>
    obtain ⟨m, s2, h2, L2, hm, hg2, hle2, hsub2, hI2⟩ := hq;exact ⟨m, hm, s2, h2, L2, ha'.sub hsub2, GH.le_trans hle1 (GH.le_trans hle' hle2), hg2 c w' hs', hI2⟩
   | _ => exact ⟨s', h', L', ha', GH.le_trans hle1 hle', hs', hq⟩
  exact wp_loop_ex (P := P) (c := b) (Q := Good N c h Q) (fun n a w => ∃ s1 h1 L1, Agrees N s1 a ∧ GH.le h h1 ∧ St c h1 L1 w ∧ I n s1 h1 L1) n ⟨s0, h0, L0, ha.sub hsub, hle, hg c w hs, hI⟩ key
 | label l => intro Q s h L a w _ _ _ hv; exact hv.elim
 | goto l => intro Q s h L a w _ _ _ hv; exact hv.elim
 | scope b _ => intro Q s h L a w _ _ _ hv; exact hv.elim
 | refuse why => intro Q s h L a w _ _ _ hv; exact hv.elim
 | rangeFunc f ps x b _ _ => intro Q s h L a w _ _ _ hv; exact hv.elim
where
 wp_loop_ex {P : Program} {c : Code} {Q : Exit → Act → World → Prop} (J : Nat → Act → World → Prop) (n : Nat) {a : Act} {w : World} (h₀ : J n a w)
  (round : ∀ n a w, J n a w → c.wp P (fun e a' w' => match e with
   | .normal => ∃ m, m < n ∧ J m a' w'
   | e => Q e a' w') a w) : (Code.loop c).wp P Q a w := by
  intro b k cs
  have key : ∀ n a w, J n a w → ∃ e a' w', Q e a' w' ∧ Arrives P (lone (b.at a (.code c :: .inLoop c :: k)) cs w) b k cs e a' w' := by
   intro n
   induction n using Nat.strongRecOn with
   | _ n ih =>
    intro a w hI;obtain ⟨e, a₁, w₁, hq, harr⟩ := round n a w hI b (.inLoop c :: k) cs;cases e with
    | normal =>
     obtain ⟨m, hlt, hI₁⟩ := hq;obtain ⟨e₂, a₂, w₂, hq₂, harr₂⟩ := ih m hlt a₁ w₁ hI₁;exact ⟨e₂, a₂, w₂, hq₂, .of_steps (Steps.trans harr (.one step_inLoop)) harr₂⟩
    | exit id => exact ⟨_, a₁, w₁, hq, .pass (x := .inLoop c) rfl (fun _ _ => .inl (by simp)) harr⟩
    | goto l => exact ⟨_, a₁, w₁, hq, .pass (x := .inLoop c) rfl (fun _ _ => .inl (by simp)) harr⟩
    | ret => exact ⟨_, a₁, w₁, hq, .pass (x := .inLoop c) rfl (fun _ _ => .inl (by simp)) harr⟩
    | panic ch => exact ⟨_, a₁, w₁, hq, .pass (x := .inLoop c) rfl (fun _ _ => .inl (by simp)) harr⟩
    | outgrown => exact ⟨_, a₁, w₁, hq, .pass (x := .inLoop c) rfl (fun _ _ => .inl (by simp)) harr⟩
  obtain ⟨e, a', w', hq, harr⟩ := key n a w h₀;exact ⟨e, a', w', hq, .of_steps (.one step_loop) harr⟩
def initFr : Nat → List Value → Fr
 | _, [] => []
 | i, v :: r => (i, v) :: initFr (i + 1) r
theorem initFr_get : ∀ (l : List Value) (k i : Nat) (v : Value), Fr.get (initFr k l) i = some v → k ≤ i ∧ l[i - k]? = some v
 | [], _, _, _, h => by cases h
 | u :: r, k, i, v, h => by
  simp only [initFr, Fr.get] at h;cases hb : Nat.beq k i with
  | true => rw [hb] at h; have := Nat.eq_of_beq_eq_true hb; subst this; simpa using h
  | false =>
   rw [hb] at h;have := initFr_get r (k + 1) i v (by simpa using h);refine ⟨by omega, ?_⟩;have h2 : i - k = (i - (k + 1)) + 1 := by omega
   rw [h2]; simpa using this.2
def endQ (P : Program) (c : World) (rs : List ResultVar) (K : Kont) : Exit → Post
 | .normal, s, h, L => DoRet rs s h L P c K
 | .ret, s, h, L => DoRet rs s h L P c K
 | _, _, _, _ => False
theorem Fun.of_vc {f : FuncId} {fn : Func} {k : Code} {args : List Value} {h : GH} {L : Own} {K : Kont} (hf : P.funcs[f]? = some fn) (hb : fn.body = some k) (hN : fn.ntmps = N) (hlen : args.length ≤ N)
 (hnm : (fn.name == "runtime.NumGoroutine") = false) (hok : slotsOk N k = true) (hv : vc P c N k (initFr 0 args) h L (endQ P c fn.results.toList K)) : Fun P c f args.toArray h L K := by
 refine ⟨by simp [Go.Brd.plain, hf, hb, hnm], fun w hs => ?_⟩;refine calls_of_wp hf hb (Code.wp_mono ?_ (vc_sound k _ (initFr 0 args) h L _ w hok ?_ hs hv))
 · rintro e a' w' ⟨s', h', L', ha', hle, hs', hq⟩
   have fin : DoRet fn.results.toList s' h' L' P c K → a'.defers = [] ∧ ∃ v, (results fn a'.tmps).run P w' = .ok v w' ∧ ∃ v' h'' L'', Ending.returned v = Ending.returned v' ∧ GH.le h h'' ∧ St c h'' L'' w' ∧ K v' h'' L'' := by
    intro hd;obtain ⟨v, h2, L2, hr, hle2, hs2, hk⟩ := hd.run a'.tmps w' fn rfl ha'.2.2 hs';exact ⟨ha'.2.1, v, hr, v, h2, L2, rfl, GH.le_trans hle hle2, hs2, hk⟩
   cases e with
   | normal => exact fin hq
   | ret => exact fin hq
   | _ => exact hq.elim
 · refine ⟨?_, rfl, ?_⟩
   · simp only [Array.size_append, List.size_toArray, Array.size_replicate, hN]; omega
   · intro i v e
     have this : args[i]? = some v := (initFr_get args 0 i v e).2
     have hi : i < args.length := by
      rcases Nat.lt_or_ge i args.length with h | h
      · exact h
      · rw [List.getElem?_eq_none h] at this; cases this
     have h2 : (args.toArray ++ Array.replicate (fn.ntmps - args.toArray.size) undef)[i]? = some v := by
      rw [Array.getElem?_append_left (by simpa using hi)]; simpa using this
     rw [Array.getD_eq_getD_getElem?, h2]; rfl
end
theorem DoRet.tmp {P : Program} {c : World} {t : Tmp} {s : Fr} {h h' : GH} {L L' : Own} {K : Kont} {v : Value} (hv : Fr.get s t = some v) (hg : Ghost h L h' L') (hle : GH.le h h') (hk : K v h' L') :
 DoRet [.tmp t] s h L P c K := ⟨fun tmps w fn hr ht hs => by
 have hr' : fn.results = #[.tmp t] := by apply Array.toList_inj.1; simpa using hr
 exact ⟨v, h', L', by rw [results_tmp hr', ht t v hv], hle, hg c w hs, hk⟩⟩
theorem DoRet.tmp2 {P : Program} {c : World} {t u : Tmp} {s : Fr} {h h' : GH} {L L' : Own} {K : Kont} {v x : Value} (hv : Fr.get s t = some v) (hx : Fr.get s u = some x) (hg : Ghost h L h' L') (hle : GH.le h h') (hk : K (.tuple #[v, x]) h' L') :
 DoRet [.tmp t, .tmp u] s h L P c K := ⟨fun tmps w fn hr ht hs => by
 have hr' : fn.results = #[.tmp t, .tmp u] := by apply Array.toList_inj.1; simpa using hr
 exact ⟨_, h', L', by rw [results_tmp2 hr', ht t v hv, ht u x hx], hle, hg c w hs, hk⟩⟩
theorem DoRet.none {P : Program} {c : World} {s : Fr} {h h' : GH} {L L' : Own} {K : Kont} (hg : Ghost h L h' L') (hle : GH.le h h') (hk : K (.tuple #[]) h' L') :
 DoRet [] s h L P c K := ⟨fun tmps w fn hr _ hs => by
 have hr' : fn.results = #[] := by apply Array.toList_inj.1; simpa using hr
 exact ⟨_, h', L', by rw [results_none hr'], hle, hg c w hs, hk⟩⟩
end Go.Brd
namespace Go.Brd
def isRd : Op → Bool
 | .move _ | .assign _ | .pick .. | .nilCheck _ | .makeFunc .. | .extract .. | .load .. | .binOp .. | .unOp .. | .convert .. | .makeInterface .. | .slice .. | .fieldAddr .. | .field .. | .indexAddr .. | .index .. | .lookup .. => true
 | .call { callee := .builtin .len, .. } | .call { callee := .builtin .cap, .. } | .call { callee := .builtin .max, .. } | .call { callee := .builtin .min, .. } => true
 | _ => false
def rdOp (P : Program) (c : World) (s : Fr) (h : GH) (Lr : Own) (ty : TypeId) (K : Value → Prop) : Op → Prop
 | .move x => with1 s x fun v => K v
 | .assign x => with1 s x fun v => K v
 | .pick x a b => with1 s x fun v => match v with
  | .bool true => with1 s a fun u => K u
  | .bool false => with1 s b fun u => K u
  | _ => False
 | .nilCheck x => with1 s x fun v => match v with
  | .pointer (some a) => K (.pointer (some a))
  | .func (.func f) fi ca => K (.func (.func f) fi ca)
  | _ => False
 | .makeFunc fn fi ca => withL s fi.toList fun u => withL s ca.toList fun v => K (.func fn u.toArray v.toArray)
 | .extract x i => with1 s x fun v => match v with
  | .tuple vs => match vs[i]? with
   | some u => K u
   | none => False
  | _ => False
 | .load t x => with1 s x fun v => DoR P c (Instr.loadAt t v) h Lr K
 | .binOp op t x y _ => with2 s x y fun a b => DoR P c (eqG op t x y a b) h Lr K
 | .unOp op _ x => with1 s x fun v => DoR P c (Op.unary op v) h Lr K
 | .convert src dst x => with1 s x fun v => match v with
  | .int k n => DoR P c (convert src dst (.int k n)) h Lr K
  | _ => False
 | .makeInterface t x => with1 s x fun v => DoR P c (Instr.makeInterface t v) h Lr K
 | .slice t x lo hi mx => with1 s x fun v => withO s lo fun a => withO s hi fun b => withO s mx fun m => DoR P c (Instr.sliceAt t v a b m) h Lr K
 | .fieldAddr t x f => with1 s x fun v => DoR P c (Instr.fieldAt t v f) h Lr K
 | .field t x f => with1 s x fun v => DoR P c (Instr.field t v f) h Lr K
 | .indexAddr t x i => with2 s x i fun v u => DoR P c (Instr.indexAt t v u) h Lr K
 | .index t x i => with2 s x i fun v u => DoR P c (Instr.index t v u) h Lr K
 | .lookup t x i ok => with2 s x i fun v u => DoR P c (Instr.lookup t v u ok) h Lr K
 | .call { callee := .builtin .len, args, argTypes } => withL s args.toList fun vs => DoR P c (Builtin.len_ argTypes ty vs.toArray) h Lr K
 | .call { callee := .builtin .cap, args, argTypes } => withL s args.toList fun vs => DoR P c (Builtin.cap_ argTypes ty vs.toArray) h Lr K
 | .call { callee := .builtin .max, args, argTypes } => withL s args.toList fun vs => DoR P c (Builtin.max_ argTypes ty vs.toArray) h Lr K
 | .call { callee := .builtin .min, args, argTypes } => withL s args.toList fun vs => DoR P c (Builtin.min_ argTypes ty vs.toArray) h Lr K
 | _ => False
def rdsO : Operand → List Nat
 | .tmp t => [t]
 | _ => []
def rds (o : Oper) : List Nat := o.op.operands.toList.flatMap rdsO
def SubOn (l : List Nat) (s t : Fr) : Prop := ∀ i ∈ l, ∀ v, Fr.get s i = some v → Fr.get t i = some v
theorem evO_sub {l : List Nat} {s t : Fr} {x : Operand} {v : Value} (hx : ∀ i ∈ rdsO x, i ∈ l) (h : SubOn l s t) (e : evO s x = some v) : evO t x = some v := by
 cases x with
 | tmp i => exact h i (hx i (by simp [rdsO])) v e
 | _ => exact e
theorem with1_sub {l : List Nat} {s t : Fr} {x : Operand} {k k' : Value → Prop} (hx : ∀ i ∈ rdsO x, i ∈ l) (h : SubOn l s t) (hk : ∀ v, k v → k' v) (hh : with1 s x k) : with1 t x k' := by
 unfold with1 at *;split at hh
 · rename_i v e; rw [evO_sub hx h e]; exact hk _ hh
 · exact hh.elim
theorem with2_sub {l : List Nat} {s t : Fr} {x y : Operand} {k k' : Value → Value → Prop} (hx : ∀ i ∈ rdsO x, i ∈ l) (hy : ∀ i ∈ rdsO y, i ∈ l) (h : SubOn l s t) (hk : ∀ u v, k u v → k' u v) (hh : with2 s x y k) : with2 t x y k' :=
 with1_sub hx h (fun u hu => with1_sub hy h (hk u) hu) hh
theorem withO_sub {l : List Nat} {s t : Fr} {x : Option Operand} {k k' : Option Value → Prop} (hx : ∀ y, x = some y → ∀ i ∈ rdsO y, i ∈ l) (h : SubOn l s t) (hk : ∀ v, k v → k' v) (hh : withO s x k) : withO t x k' := by
 cases x with
 | none => exact hk _ hh
 | some y => exact with1_sub (hx y rfl) h (fun v => hk (some v)) hh
theorem withL_sub {l : List Nat} {s t : Fr} : ∀ {xs : List Operand} {k k' : List Value → Prop}, (∀ x ∈ xs, ∀ i ∈ rdsO x, i ∈ l) → SubOn l s t → (∀ v, k v → k' v) → withL s xs k → withL t xs k'
 | [], _, _, _, _, hk, hh => hk _ hh
 | x :: _, _, _, hx, h, hk, hh => with1_sub (hx x (by simp)) h (fun _ hv => withL_sub (fun y hy => hx y (by simp [hy])) h (fun vs => hk (_ :: vs)) hv) hh
theorem withP_sub {l : List Nat} {s t : Fr} : ∀ {xs : List (Nat × Operand)} {k k' : List (Nat × Value) → Prop}, (∀ x ∈ xs, ∀ i ∈ rdsO x.2, i ∈ l) → SubOn l s t → (∀ v, k v → k' v) → withP s xs k → withP t xs k'
 | [], _, _, _, _, hk, hh => hk _ hh
 | (j, x) :: _, _, _, hx, h, hk, hh => with1_sub (hx (j, x) (by simp)) h (fun _ hv => withP_sub (fun y hy => hx y (by simp [hy])) h (fun vs => hk ((j, _) :: vs)) hv) hh
theorem rds_mem {o : Oper} {x : Operand} (hx : x ∈ o.op.operands) {i : Nat} (hi : i ∈ rdsO x) : i ∈ rds o := List.mem_flatMap.2 ⟨x, Array.mem_toList_iff.2 hx, hi⟩
section
variable {P : Program} {c : World} {s t : Fr} {h : GH} {Lr L : Own} {ty : TypeId}
theorem ops_mem {op : Op} {l : List Nat} (hl : ∀ i ∈ op.operands.toList.flatMap rdsO, i ∈ l) {x : Operand} (hx : x ∈ op.operands) : ∀ i ∈ rdsO x, i ∈ l := fun i hi => hl i (List.mem_flatMap.2 ⟨x, Array.mem_toList_iff.2 hx, hi⟩)
theorem rdOp_sub {K K' : Value → Prop} {op : Op} {l : List Nat} (hl : ∀ i ∈ op.operands.toList.flatMap rdsO, i ∈ l) (hs : SubOn l s t) (hk : ∀ v, K v → K' v) : rdOp P c s h Lr ty K op → rdOp P c t h Lr ty K' op := by
 cases op with
 | move x => intro hh; simp only [rdOp] at hh ⊢; exact with1_sub (ops_mem hl (by simp [Op.operands])) hs hk hh
 | assign x => intro hh; simp only [rdOp] at hh ⊢; exact with1_sub (ops_mem hl (by simp [Op.operands])) hs hk hh
 | pick x a b =>
  intro hh; simp only [rdOp] at hh ⊢;refine with1_sub (ops_mem hl (by simp [Op.operands])) hs (fun v hv => ?_) hh;cases v with
  | bool q => cases q <;> exact with1_sub (ops_mem hl (by simp [Op.operands])) hs hk hv
  | _ => exact hv.elim
 | nilCheck x =>
  intro hh; simp only [rdOp] at hh ⊢;refine with1_sub (ops_mem hl (by simp [Op.operands])) hs (fun v hv => ?_) hh;split at hv
  · exact hk _ hv
  · exact hk _ hv
  · exact hv.elim
 | makeFunc fn fi ca =>
  intro hh; simp only [rdOp] at hh ⊢;exact withL_sub (fun x hx => ops_mem hl (by simp [Op.operands, Array.mem_toList_iff.1 hx])) hs (fun u hu => withL_sub (fun x hx => ops_mem hl (by simp [Op.operands, Array.mem_toList_iff.1 hx])) hs (fun v hv => hk _ hv) hu) hh
 | extract x i =>
  intro hh; simp only [rdOp] at hh ⊢;refine with1_sub (ops_mem hl (by simp [Op.operands])) hs (fun v hv => ?_) hh;split at hv
  · split at hv
    · exact hk _ hv
    · exact hv.elim
  · exact hv.elim
 | load ty x => intro hh; simp only [rdOp] at hh ⊢; exact with1_sub (ops_mem hl (by simp [Op.operands])) hs (fun v hv => hv.mono hk) hh
 | binOp op ty x y yt => intro hh; simp only [rdOp] at hh ⊢; exact with2_sub (ops_mem hl (by simp [Op.operands])) (ops_mem hl (by simp [Op.operands])) hs (fun u v hv => hv.mono hk) hh
 | unOp op ty x => intro hh; simp only [rdOp] at hh ⊢; exact with1_sub (ops_mem hl (by simp [Op.operands])) hs (fun v hv => hv.mono hk) hh
 | convert a b x =>
  intro hh; simp only [rdOp] at hh ⊢;refine with1_sub (ops_mem hl (by simp [Op.operands])) hs (fun v hv => ?_) hh;cases v with
  | int k n => exact hv.mono hk
  | _ => exact hv.elim
 | makeInterface ty x => intro hh; simp only [rdOp] at hh ⊢; exact with1_sub (ops_mem hl (by simp [Op.operands])) hs (fun v hv => hv.mono hk) hh
 | slice ty x lo hi mx =>
  intro hh; simp only [rdOp] at hh ⊢
  exact with1_sub (ops_mem hl (by simp [Op.operands])) hs (fun v hv => withO_sub (fun y hy => ops_mem hl (by subst hy; simp [Op.operands])) hs (fun a ha => withO_sub (fun y hy => ops_mem hl (by subst hy; simp [Op.operands])) hs
   (fun b hb => withO_sub (fun y hy => ops_mem hl (by subst hy; simp [Op.operands])) hs (fun m hm => hm.mono hk) hb) ha) hv) hh
 | fieldAddr ty x f => intro hh; simp only [rdOp] at hh ⊢; exact with1_sub (ops_mem hl (by simp [Op.operands])) hs (fun v hv => hv.mono hk) hh
 | field ty x f => intro hh; simp only [rdOp] at hh ⊢; exact with1_sub (ops_mem hl (by simp [Op.operands])) hs (fun v hv => hv.mono hk) hh
 | indexAddr ty x y => intro hh; simp only [rdOp] at hh ⊢; exact with2_sub (ops_mem hl (by simp [Op.operands])) (ops_mem hl (by simp [Op.operands])) hs (fun u v hv => hv.mono hk) hh
 | index ty x y => intro hh; simp only [rdOp] at hh ⊢; exact with2_sub (ops_mem hl (by simp [Op.operands])) (ops_mem hl (by simp [Op.operands])) hs (fun u v hv => hv.mono hk) hh
 | lookup ty x y ok => intro hh; simp only [rdOp] at hh ⊢; exact with2_sub (ops_mem hl (by simp [Op.operands])) (ops_mem hl (by simp [Op.operands])) hs (fun u v hv => hv.mono hk) hh
 | call cl =>
  obtain ⟨callee, args, ats⟩ := cl;cases callee with
  | builtin b =>
   cases b <;> intro hh <;> first | exact hh.elim | (simp only [rdOp] at hh ⊢; exact withL_sub (fun x hx => ops_mem hl (by simp [Op.operands, Call.operands, Array.mem_toList_iff.1 hx])) hs (fun v hv => hv.mono hk) hh)
  | _ => exact fun hh => hh.elim
 | _ => exact fun hh => hh.elim
theorem DoV.sub {m : Sem Value} {K K' : Kont} (hk : ∀ v h' L', GH.le h h' → K v h' L' → K' v h' L') (hm : DoV P c m h L K) : DoV P c m h L K' := hm.mono hk
theorem DoU.mono {m : Sem Unit} {K K' : Kont} (hk : ∀ v h' L', GH.le h h' → K v h' L' → K' v h' L') (hm : DoU P c m h L K) : DoU P c m h L K' :=
 ⟨fun w s => let ⟨w', h', L', r, hle, s', k⟩ := hm.run w s; ⟨w', h', L', r, hle, s', hk _ h' L' hle k⟩⟩
theorem DoCall.mono {f : Value} {args : Array Value} {K K' : Kont} (hk : ∀ v h' L', GH.le h h' → K v h' L' → K' v h' L') (hm : DoCall P c f args h L K) : DoCall P c f args h L K' :=
 let ⟨n, fi, ca, e, hf⟩ := hm.to; ⟨n, fi, ca, e, hf.imp (fun x => x.mono hk) (fun x => x.mono hk)⟩
theorem vcOp_sub {K K' : Kont} {op : Op} {l : List Nat} (hr : isRd op = false) (hl : ∀ i ∈ op.operands.toList.flatMap rdsO, i ∈ l) (hs : SubOn l s t) (hk : ∀ v h' L', GH.le h h' → K v h' L' → K' v h' L') : vcOp P c s h Lr L ty K op → vcOp P c t h Lr L ty K' op := by
 cases op with
 | alloc e => intro hh; simp only [vcOp] at hh ⊢; exact hh.mono hk
 | box e x => intro hh; simp only [vcOp] at hh ⊢; exact with1_sub (ops_mem hl (by simp [Op.operands])) hs (fun v hv => hv.mono hk) hh
 | build ty ps =>
  intro hh; simp only [vcOp] at hh ⊢;exact withP_sub (fun x hx => ops_mem hl (by simp only [Op.operands]; simp only [List.mem_toArray, List.mem_map]; exact ⟨x, hx, rfl⟩)) hs (fun v hv => hv.mono hk) hh
 | buildSlice ty n ps =>
  intro hh; simp only [vcOp] at hh ⊢;exact withP_sub (fun x hx => ops_mem hl (by simp only [Op.operands]; simp only [List.mem_toArray, List.mem_map]; exact ⟨x, hx, rfl⟩)) hs (fun v hv => hv.mono hk) hh
 | store ty x y => intro hh; simp only [vcOp] at hh ⊢; exact with2_sub (ops_mem hl (by simp [Op.operands])) (ops_mem hl (by simp [Op.operands])) hs (fun u v hv => hv.mono hk) hh
 | makeMap ty r => intro hh; simp only [vcOp] at hh ⊢; exact withO_sub (fun y hy => ops_mem hl (by subst hy; simp [Op.operands])) hs (fun v hv => hv.mono hk) hh
 | makeSlice ty x y => intro hh; simp only [vcOp] at hh ⊢; exact with2_sub (ops_mem hl (by simp [Op.operands])) (ops_mem hl (by simp [Op.operands])) hs (fun u v hv => hv.mono hk) hh
 | mapUpdate ty m x y => intro hh; simp only [vcOp] at hh ⊢; exact with1_sub (ops_mem hl (by simp [Op.operands])) hs (fun a ha => with2_sub (ops_mem hl (by simp [Op.operands])) (ops_mem hl (by simp [Op.operands])) hs (fun u v hv => hv.mono hk) ha) hh
 | insert ty m x y => intro hh; simp only [vcOp] at hh ⊢; exact with1_sub (ops_mem hl (by simp [Op.operands])) hs (fun a ha => with2_sub (ops_mem hl (by simp [Op.operands])) (ops_mem hl (by simp [Op.operands])) hs (fun u v hv => hv.mono hk) ha) hh
 | mapEntry ty x y => intro hh; simp only [vcOp] at hh ⊢; exact with2_sub (ops_mem hl (by simp [Op.operands])) (ops_mem hl (by simp [Op.operands])) hs (fun u v hv => hv.mono hk) hh
 | entryStore ty m x y => intro hh; simp only [vcOp] at hh ⊢; exact with1_sub (ops_mem hl (by simp [Op.operands])) hs (fun a ha => with2_sub (ops_mem hl (by simp [Op.operands])) (ops_mem hl (by simp [Op.operands])) hs (fun u v hv => hv.mono hk) ha) hh
 | range ty x => intro hh; simp only [vcOp] at hh ⊢; exact with1_sub (ops_mem hl (by simp [Op.operands])) hs (fun v hv => hv.mono hk) hh
 | next x b => intro hh; simp only [vcOp] at hh ⊢; exact with1_sub (ops_mem hl (by simp [Op.operands])) hs (fun v hv => hv.mono hk) hh
 | entry x => intro hh; simp only [vcOp] at hh ⊢; exact with1_sub (ops_mem hl (by simp [Op.operands])) hs (fun v hv => hv.mono hk) hh
 | call cl =>
  obtain ⟨callee, args, ats⟩ := cl;cases callee with
  | value f =>
   intro hh; simp only [vcOp] at hh ⊢;exact with1_sub (ops_mem hl (by simp [Op.operands, Call.operands])) hs (fun fv hfv => withL_sub (fun x hx => ops_mem hl (by simp [Op.operands, Call.operands, Array.mem_toList_iff.1 hx])) hs (fun v hv => hv.mono hk) hfv) hh
  | invoke r n => exact fun hh => hh.elim
  | builtin b =>
   cases b <;> intro hh <;> first | exact hh.elim | (simp [isRd] at hr; done) | (simp only [vcOp] at hh ⊢; exact withL_sub (fun x hx => ops_mem hl (by simp [Op.operands, Call.operands, Array.mem_toList_iff.1 hx])) hs (fun v hv => DoV.mono hv hk) hh)
 | _ => first | exact fun hh => hh.elim | (simp [isRd] at hr; done)
theorem rdOp_stable {K : Value → Prop} {op : Op} : rdOp P c s h Lr ty K op → ∃ v, K v ∧ ∀ h', GH.le h h' → ∀ K' : Value → Prop, K' v → rdOp P c s h' Lr ty K' op := by
 have w1 : ∀ {x : Operand} {k : Value → Prop}, with1 s x k → ∃ v, evO s x = some v ∧ k v := fun {x k} hh => by
  unfold with1 at hh; split at hh
  · rename_i v e; exact ⟨v, e, hh⟩
  · exact hh.elim
 have w1i : ∀ {x : Operand} {v : Value} {k : Value → Prop}, evO s x = some v → k v → with1 s x k := fun {x v k} e hk => by unfold with1; rw [e]; exact hk
 have dor : ∀ {m : Sem Value} {K : Value → Prop}, DoR P c m h Lr K → ∃ v, K v ∧ ∀ h', GH.le h h' → ∀ K' : Value → Prop, K' v → DoR P c m h' Lr K' := fun {m K} hd => by
  obtain ⟨v, hr, hk⟩ := hd.run;exact ⟨v, hk, fun h' hle K' hk' => ⟨v, fun w h2 L2 hle2 hm st => hr w h2 L2 (GH.le_trans hle hle2) hm st, hk'⟩⟩
 have wO : ∀ {x : Option Operand} {k : Option Value → Prop}, withO s x k → ∃ v, k v ∧ ∀ k' : Option Value → Prop, k' v → withO s x k' := fun {x k} hh => by
  cases x with
  | none => exact ⟨none, hh, fun k' hk' => hk'⟩
  | some y => obtain ⟨v, e, hk⟩ := w1 hh; exact ⟨some v, hk, fun k' hk' => w1i e hk'⟩
 have wL : ∀ {xs : List Operand} {k : List Value → Prop}, withL s xs k → ∃ v, k v ∧ ∀ k' : List Value → Prop, k' v → withL s xs k' := by
  intro xs
  induction xs with
  | nil => intro k hh; exact ⟨[], hh, fun k' hk' => hk'⟩
  | cons x r ih =>
   intro k hh;obtain ⟨v, e, hk⟩ := w1 hh;obtain ⟨vs, hk2, hb⟩ := ih hk;exact ⟨v :: vs, hk2, fun k' hk' => w1i e (hb (fun vs => k' (v :: vs)) hk')⟩
 have one : ∀ {x : Operand} {m : Value → Sem Value}, with1 s x (fun v => DoR P c (m v) h Lr K) → ∃ v, K v ∧ ∀ h', GH.le h h' → ∀ K' : Value → Prop, K' v → with1 s x (fun v => DoR P c (m v) h' Lr K') := fun {x m} hh => by
  obtain ⟨v, e, hk⟩ := w1 hh;obtain ⟨u, hu, hb⟩ := dor hk;exact ⟨u, hu, fun h' hle K' hk' => w1i e (hb h' hle K' hk')⟩
 have two : ∀ {x y : Operand} {m : Value → Value → Sem Value}, with2 s x y (fun u v => DoR P c (m u v) h Lr K) → ∃ v, K v ∧ ∀ h', GH.le h h' → ∀ K' : Value → Prop, K' v → with2 s x y (fun u v => DoR P c (m u v) h' Lr K') := fun {x y m} hh => by
  obtain ⟨v, e, hk⟩ := w1 hh;obtain ⟨v2, e2, hk2⟩ := w1 hk;obtain ⟨u, hu, hb⟩ := dor hk2;exact ⟨u, hu, fun h' hle K' hk' => w1i e (w1i e2 (hb h' hle K' hk'))⟩
 have lst : ∀ {xs : List Operand} {m : List Value → Sem Value}, withL s xs (fun v => DoR P c (m v) h Lr K) → ∃ v, K v ∧ ∀ h', GH.le h h' → ∀ K' : Value → Prop, K' v → withL s xs (fun v => DoR P c (m v) h' Lr K') := fun {x m} hh => by
  obtain ⟨v, hk, hb⟩ := wL hh;obtain ⟨u, hu, hb2⟩ := dor hk;exact ⟨u, hu, fun h' hle K' hk' => hb _ (hb2 h' hle K' hk')⟩
 cases op with
 | move x => intro hh; simp only [rdOp] at hh ⊢; obtain ⟨v, e, hk⟩ := w1 hh; exact ⟨v, hk, fun h' _ K' hk' => w1i e hk'⟩
 | assign x => intro hh; simp only [rdOp] at hh ⊢; obtain ⟨v, e, hk⟩ := w1 hh; exact ⟨v, hk, fun h' _ K' hk' => w1i e hk'⟩
 | pick x a b =>
  intro hh; simp only [rdOp] at hh ⊢;obtain ⟨v, e, hk⟩ := w1 hh;cases v with
  | bool q =>
   cases q with
   | true => obtain ⟨u, e2, hk2⟩ := w1 hk; exact ⟨u, hk2, fun h' _ K' hk' => w1i e (w1i e2 hk')⟩
   | false => obtain ⟨u, e2, hk2⟩ := w1 hk; exact ⟨u, hk2, fun h' _ K' hk' => w1i e (w1i e2 hk')⟩
  | _ => exact hk.elim
 | nilCheck x =>
  intro hh; simp only [rdOp] at hh ⊢;obtain ⟨v, e, hk⟩ := w1 hh;split at hk
  · exact ⟨_, hk, fun h' _ K' hk' => w1i e hk'⟩
  · exact ⟨_, hk, fun h' _ K' hk' => w1i e hk'⟩
  · exact hk.elim
 | makeFunc fn fi ca =>
  intro hh; simp only [rdOp] at hh ⊢;obtain ⟨u, hu, hb⟩ := wL hh;obtain ⟨v, hv, hb2⟩ := wL hu;exact ⟨_, hv, fun h' _ K' hk' => hb _ (hb2 _ hk')⟩
 | extract x i =>
  intro hh; simp only [rdOp] at hh ⊢;obtain ⟨v, e, hk⟩ := w1 hh;split at hk
  · split at hk
    · rename_i vs _ u hu; exact ⟨u, hk, fun h' _ K' hk' => w1i e (by simp only [hu]; exact hk')⟩
    · exact hk.elim
  · exact hk.elim
 | load ty x => intro hh; simp only [rdOp] at hh ⊢; exact one hh
 | binOp op ty x y yt => intro hh; simp only [rdOp] at hh ⊢; exact two hh
 | unOp op ty x => intro hh; simp only [rdOp] at hh ⊢; exact one hh
 | convert a b x =>
  intro hh; simp only [rdOp] at hh ⊢;obtain ⟨v, e, hk⟩ := w1 hh;cases v with
  | int k n => obtain ⟨u, hu, hb⟩ := dor hk; exact ⟨u, hu, fun h' hle K' hk' => w1i e (hb h' hle K' hk')⟩
  | _ => exact hk.elim
 | makeInterface ty x => intro hh; simp only [rdOp] at hh ⊢; exact one hh
 | slice ty x lo hi mx =>
  intro hh; simp only [rdOp] at hh ⊢;obtain ⟨v, e, hk⟩ := w1 hh;obtain ⟨a, ha, hb1⟩ := wO hk;obtain ⟨b, hb, hb2⟩ := wO ha;obtain ⟨m, hm, hb3⟩ := wO hb;obtain ⟨u, hu, hb4⟩ := dor hm;exact ⟨u, hu, fun h' hle K' hk' => w1i e (hb1 _ (hb2 _ (hb3 _ (hb4 h' hle K' hk'))))⟩
 | fieldAddr ty x f => intro hh; simp only [rdOp] at hh ⊢; exact one hh
 | field ty x f => intro hh; simp only [rdOp] at hh ⊢; exact one hh
 | indexAddr ty x y => intro hh; simp only [rdOp] at hh ⊢; exact two hh
 | index ty x y => intro hh; simp only [rdOp] at hh ⊢; exact two hh
 | lookup ty x y ok => intro hh; simp only [rdOp] at hh ⊢; exact two hh
 | call cl =>
  obtain ⟨callee, args, ats⟩ := cl;cases callee with
  | builtin b => cases b <;> intro hh <;> first | exact hh.elim | (simp only [rdOp] at hh ⊢; exact lst hh)
  | _ => exact fun hh => hh.elim
 | _ => exact fun hh => hh.elim
theorem rdOp_vcOp {K : Kont} {op : Op} : rdOp P c s h Lr ty (fun v => K v h L) op → vcOp P c s h Lr L ty K op := by
 cases op with
 | convert a b x =>
  intro hh; simp only [rdOp] at hh; simp only [vcOp];unfold with1 at *;split at hh
  · rename_i v e
    cases v with
    | int k n => exact hh
    | _ => exact hh.elim
  · exact hh.elim
 | call cl =>
  obtain ⟨callee, args, ats⟩ := cl;cases callee with
  | builtin b => cases b <;> intro hh <;> first | exact hh.elim | exact hh
  | _ => exact fun hh => hh.elim
 | _ => first | exact fun hh => hh | exact fun hh => hh.elim
end
end Go.Brd
namespace Go.Brd
section
variable {P : Program} {c : World} {N : Nat}
def StepK (P : Program) (c : World) (ops : Array Oper) (Lr : Own) (o : Oper) (s : Fr) (h : GH) (L : Own) (k : Kont) : Prop :=
 match o.guard with
 | none => bif isRd o.op then rdOp P c s h Lr o.type (fun v => k v h L) o.op else vcOp P c s h L L o.type (fun v h' L' => (∀ e ∈ Lr, e ∈ L') ∧ k v h' L') o.op
 | some (j, want) => match (ops[j]?).bind (·.dst) with
  | some d => match Fr.get s d with
   | some (.bool true) => bif want then (bif isRd o.op then rdOp P c s h Lr o.type (fun v => k v h L) o.op else vcOp P c s h L L o.type (fun v h' L' => (∀ e ∈ Lr, e ∈ L') ∧ k v h' L') o.op) else k undef h L
   | some (.bool false) => bif want then k undef h L else (bif isRd o.op then rdOp P c s h Lr o.type (fun v => k v h L) o.op else vcOp P c s h L L o.type (fun v h' L' => (∀ e ∈ Lr, e ∈ L') ∧ k v h' L') o.op)
   | some (.tuple _) => k undef h L
   | _ => False
  | none => False
def vcDraw (P : Program) (c : World) (ops : Array Oper) (Lr : Own) : List Nat → Fr → GH → Own → Post → Prop
 | [], s, h, L, Q => ∃ s', Fr.Sub s' s ∧ Q s' h L
 | i :: σ, s, h, L, Q => match ops[i]? with
  | some o => StepK P c ops Lr o s h L (fun v h' L' => vcDraw P c ops Lr σ (updF s o.dst v) h' L' Q)
  | none => False
def guardD (ops : Array Oper) (o : Oper) : List Nat := match o.guard with
 | some (j, _) => ((ops[j]?).bind (·.dst)).toList
 | none => []
def looks (ops : Array Oper) (o : Oper) : List Nat := o.op.operands.toList.flatMap rdsO ++ guardD ops o
theorem Fr.Sub.upd {s t : Fr} (h : Fr.Sub s t) (d : Option Tmp) (v : Value) : Fr.Sub (updF s d v) (updF t d v) := by
 cases d with
 | none => exact h
 | some d =>
  intro i u e;simp only [updF, Fr.get] at e ⊢;cases hb : Nat.beq d i with
  | true => rw [hb] at e; exact e
  | false => rw [hb] at e; exact h i u e
theorem Fr.Sub.swap {s : Fr} {d e : Option Tmp} {v u : Value} (hne : ∀ x, d = some x → e ≠ some x) : Fr.Sub (updF (updF s d v) e u) (updF (updF s e u) d v) := by
 cases d with
 | none => exact Fr.Sub.refl _
 | some d =>
  cases e with
  | none => exact Fr.Sub.refl _
  | some e =>
   have hde : d ≠ e := fun x => hne d rfl (by rw [x])
   intro i w hw;simp only [updF, Fr.get] at hw ⊢;cases hb : Nat.beq e i with
   | true =>
    have h1 := Nat.eq_of_beq_eq_true hb;rw [hb] at hw
    have : Nat.beq d i = false := by
     cases hx : Nat.beq d i with
     | true => exact (hde ((Nat.eq_of_beq_eq_true hx).trans h1.symm)).elim
     | false => rfl
    rw [this]; exact hw
   | false => rw [hb] at hw; exact hw
theorem Fr.Sub.on {s t : Fr} (h : Fr.Sub s t) (l : List Nat) : SubOn l s t := fun i _ v e => h i v e
theorem SubOn.updL {l : List Nat} {s : Fr} {d : Option Tmp} {v : Value} (hd : ∀ x, d = some x → x ∉ l) : SubOn l (updF s d v) s := by
 intro i hi u e;cases d with
 | none => exact e
 | some d =>
  simp only [updF, Fr.get] at e;cases hb : Nat.beq d i with
  | true => have := Nat.eq_of_beq_eq_true hb; subst this; exact (hd d rfl hi).elim
  | false => rw [hb] at e; exact e
theorem SubOn.updR {l : List Nat} {s : Fr} {d : Option Tmp} {v : Value} (hd : ∀ x, d = some x → x ∉ l) : SubOn l s (updF s d v) := by
 intro i hi u e;cases d with
 | none => exact e
 | some d =>
  simp only [updF, Fr.get];cases hb : Nat.beq d i with
  | true => have := Nat.eq_of_beq_eq_true hb; subst this; exact (hd d rfl hi).elim
  | false => exact e
variable {ops : Array Oper} {Lr : Own}
theorem StepK.sub {o : Oper} {s t : Fr} {h : GH} {L : Own} {k k' : Kont} (hs : SubOn (looks ops o) s t) (hL : ∀ e ∈ Lr, e ∈ L) (hk : ∀ v h' L', GH.le h h' → (∀ e ∈ Lr, e ∈ L') → k v h' L' → k' v h' L') : StepK P c ops Lr o s h L k → StepK P c ops Lr o t h L k' := by
 have run : (bif isRd o.op then rdOp P c s h Lr o.type (fun v => k v h L) o.op else vcOp P c s h L L o.type (fun v h' L' => (∀ e ∈ Lr, e ∈ L') ∧ k v h' L') o.op) →
  (bif isRd o.op then rdOp P c t h Lr o.type (fun v => k' v h L) o.op else vcOp P c t h L L o.type (fun v h' L' => (∀ e ∈ Lr, e ∈ L') ∧ k' v h' L') o.op) := by
  have hl : ∀ i ∈ o.op.operands.toList.flatMap rdsO, i ∈ looks ops o := fun i hi => List.mem_append_left _ hi
  cases hr : isRd o.op with
  | true => exact rdOp_sub hl hs (fun v hv => hk v h L (GH.le_refl h) hL hv)
  | false =>
   intro hd;simp only [cond_false] at hd ⊢;exact vcOp_sub (K := fun v h' L' => (∀ e ∈ Lr, e ∈ L') ∧ k v h' L') (K' := fun v h' L' => (∀ e ∈ Lr, e ∈ L') ∧ k' v h' L') hr hl hs (fun v h' L' hle hv => ⟨hv.1, hk v h' L' hle hv.1 hv.2⟩) hd
 unfold StepK;cases hg : o.guard with
 | none => exact run
 | some g =>
  obtain ⟨j, want⟩ := g;simp only;cases hd : (ops[j]?).bind (·.dst) with
  | none => exact fun hh => hh
  | some d =>
   simp only;have hsub := hs d (List.mem_append_right _ (by unfold guardD; rw [hg]; simp only; rw [hd]; simp));intro hh;cases hgs : Fr.get s d with
   | none => rw [hgs] at hh; exact hh.elim
   | some v =>
    rw [hgs] at hh;rw [hsub v hgs];cases v with
    | bool b =>
     cases b <;> cases want
     · exact run hh
     · exact hk _ _ _ (GH.le_refl h) hL hh
     · exact hk _ _ _ (GH.le_refl h) hL hh
     · exact run hh
    | tuple vs => exact hk _ _ _ (GH.le_refl h) hL hh
    | _ => exact hh.elim
theorem vcDraw_sub {Q : Post} : ∀ {σ : List Nat} {s t : Fr} {h : GH} {L : Own}, Fr.Sub s t → (∀ e ∈ Lr, e ∈ L) → vcDraw P c ops Lr σ s h L Q → vcDraw P c ops Lr σ t h L Q
 | [], _, _, _, _, hs, _, ⟨s', h1, h2⟩ => ⟨s', fun i v e => hs i v (h1 i v e), h2⟩
 | i :: σ, s, t, h, L, hs, hL, hh => by
  unfold vcDraw at hh ⊢;cases hi : ops[i]? with
  | none => rw [hi] at hh; exact hh.elim
  | some o =>
   rw [hi] at hh;exact StepK.sub (hs.on _) hL (fun v h' L' _ hL' hv => vcDraw_sub (hs.upd _ _) hL' hv) hh
theorem StepK.stable {o : Oper} {s : Fr} {h : GH} {L : Own} {k : Kont} (hr : isRd o.op = true) (hh : StepK P c ops Lr o s h L k) :
 ∃ v, k v h L ∧ ∀ t h' L' (k' : Kont), SubOn (looks ops o) s t → GH.le h h' → (∀ e ∈ Lr, e ∈ L') → k' v h' L' → StepK P c ops Lr o t h' L' k' := by
 have run : rdOp P c s h Lr o.type (fun v => k v h L) o.op → ∃ v, k v h L ∧ ∀ t h' L' (k' : Kont), SubOn (looks ops o) s t → GH.le h h' → k' v h' L' → rdOp P c t h' Lr o.type (fun v => k' v h' L') o.op := by
  intro hd;obtain ⟨v, hv, hb⟩ := rdOp_stable hd;exact ⟨v, hv, fun t h' L' k' hs hle hk' => rdOp_sub (fun i hi => List.mem_append_left _ hi) hs (fun _ e => e) (hb h' hle (fun v => k' v h' L') hk')⟩
 unfold StepK at hh ⊢;cases hg : o.guard with
 | none =>
  simp only [hg, hr, cond_true] at hh ⊢;obtain ⟨v, hv, hb⟩ := run hh;exact ⟨v, hv, fun t h' L' k' hs hle _ hk' => hb t h' L' k' hs hle hk'⟩
 | some g =>
  obtain ⟨j, want⟩ := g;simp only [hg, hr, cond_true] at hh ⊢;cases hd : (ops[j]?).bind (·.dst) with
  | none => rw [hd] at hh; exact hh.elim
  | some d =>
   rw [hd] at hh;simp only at hh ⊢;cases hgs : Fr.get s d with
   | none => rw [hgs] at hh; exact hh.elim
   | some u =>
    rw [hgs] at hh;have hgt : ∀ t, SubOn (looks ops o) s t → Fr.get t d = some u := fun t hs => hs d (List.mem_append_right _ (by unfold guardD; rw [hg]; simp only; rw [hd]; simp)) u hgs
    cases u with
    | bool b =>
     have yes : rdOp P c s h Lr o.type (fun v => k v h L) o.op → ∃ v, k v h L ∧ ∀ t h' L' (k' : Kont), SubOn (looks ops o) s t → GH.le h h' → (∀ e ∈ Lr, e ∈ L') → k' v h' L' → Fr.get t d = some (.bool b) ∧ rdOp P c t h' Lr o.type (fun v => k' v h' L') o.op := fun hd => by
      obtain ⟨v, hv, hbb⟩ := run hd;exact ⟨v, hv, fun t h' L' k' hs hle _ hk' => ⟨hgt t hs, hbb t h' L' k' hs hle hk'⟩⟩
     cases b <;> cases want
     · obtain ⟨v, hv, hbb⟩ := yes hh
       exact ⟨v, hv, fun t h' L' k' hs hle hL' hk' => by obtain ⟨e1, e2⟩ := hbb t h' L' k' hs hle hL' hk'; rw [e1]; exact e2⟩
     · exact ⟨undef, hh, fun t h' L' k' hs hle hL' hk' => by rw [hgt t hs]; exact hk'⟩
     · exact ⟨undef, hh, fun t h' L' k' hs hle hL' hk' => by rw [hgt t hs]; exact hk'⟩
     · obtain ⟨v, hv, hbb⟩ := yes hh
       exact ⟨v, hv, fun t h' L' k' hs hle hL' hk' => by obtain ⟨e1, e2⟩ := hbb t h' L' k' hs hle hL' hk'; rw [e1]; exact e2⟩
    | tuple vs =>
     refine ⟨undef, hh, fun t h' L' k' hs hle _ hk' => ?_⟩;rw [hgt t hs]; exact hk'
    | _ => exact hh.elim
def apart (ops : Array Oper) (x y : Oper) : Bool :=
 (match x.dst with
  | some d => !(looks ops y).contains d && y.dst != some d
  | none => true) &&
 (match y.dst with
  | some d => !(looks ops x).contains d
  | none => true)
theorem apart_spec {x y : Oper} (h : apart ops x y = true) : (∀ d, x.dst = some d → d ∉ looks ops y) ∧ (∀ d, x.dst = some d → y.dst ≠ some d) ∧ (∀ d, y.dst = some d → d ∉ looks ops x) := by
 refine ⟨fun d hd => ?_, fun d hd => ?_, fun d hd => ?_⟩ <;> simp [apart, hd] at h
 · exact h.1.1
 · exact h.1.2
 · exact h.2
theorem vcDraw_swap {Q : Post} {i j : Nat} {x y : Oper} {σ : List Nat} {s : Fr} {h : GH} {L : Own} (hx : ops[i]? = some x) (hy : ops[j]? = some y) (hr : isRd x.op = true) (ha : apart ops x y = true) (hL : ∀ e ∈ Lr, e ∈ L)
 (hh : vcDraw P c ops Lr (i :: j :: σ) s h L Q) : vcDraw P c ops Lr (j :: i :: σ) s h L Q := by
 obtain ⟨a1, a2, a3⟩ := apart_spec ha;unfold vcDraw at hh ⊢;rw [hx] at hh; rw [hy];simp only at hh ⊢;obtain ⟨vx, hv, hb⟩ := StepK.stable hr hh;unfold vcDraw at hv;rw [hy] at hv;simp only at hv;refine StepK.sub (SubOn.updL a1) hL (fun vy h' L' hle hL' hk => ?_) hv;unfold vcDraw;rw [hx];simp only;exact hb _ h' L' _ (SubOn.updR a3) hle hL' (vcDraw_sub (Fr.Sub.swap a2) hL' hk)
theorem vcDraw_front {Q : Post} {j : Nat} {y : Oper} (hy : ops[j]? = some y) : ∀ {A B : List Nat} {s : Fr} {h : GH} {L : Own}, (∀ i ∈ A, ∃ x, ops[i]? = some x ∧ isRd x.op = true ∧ apart ops x y = true) → (∀ e ∈ Lr, e ∈ L) →
 vcDraw P c ops Lr (A ++ j :: B) s h L Q → vcDraw P c ops Lr (j :: (A ++ B)) s h L Q
 | [], _, _, _, _, _, _, hh => hh
 | i :: A, B, s, h, L, hA, hL, hh => by
  obtain ⟨x, hx, hr, ha⟩ := hA i (by simp);refine vcDraw_swap hx hy hr ha hL ?_;unfold vcDraw at hh;simp only [List.cons_append] at hh;unfold vcDraw;simp only [hx] at hh ⊢;exact StepK.sub (fun _ _ _ e => e) hL (fun v h' L' _ hL' hk => vcDraw_front hy (fun i hi => hA i (by simp [hi])) hL' hk) hh
theorem wpOp_of_step {o : Oper} {i : Nat} {s : Fr} {h : GH} {L : Own} {a : Act} {w : World} {R : Exit → Act → World → Prop} {next : Act → World → Prop} {k : Kont} (ho : ops[i]? = some o) (hall : ops.toList.all (dstOk N) = true) (ha : Agrees N s a) (hs : St c h L w) (hL : ∀ e ∈ Lr, e ∈ L)
 (hn : ∀ v w' h' L', GH.le h h' → St c h' L' w' → (∀ e ∈ Lr, e ∈ L') → k v h' L' → next (a.put o.dst v) w') (hh : StepK P c ops Lr o s h L k) : wpOp P ops R i next a w := by
 have run : (bif isRd o.op then rdOp P c s h Lr o.type (fun v => k v h L) o.op else vcOp P c s h L L o.type (fun v h' L' => (∀ e ∈ Lr, e ∈ L') ∧ k v h' L') o.op) → o.wp P a w next R := by
  cases hr : isRd o.op with
  | true =>
   intro hd;exact vcOp_sound (K := fun v h' L' => (∀ e ∈ Lr, e ∈ L') ∧ k v h' L') ha hs hL (rdOp_vcOp (K := fun v h' L' => (∀ e ∈ Lr, e ∈ L') ∧ k v h' L') (rdOp_sub (fun i hi => hi) (fun _ _ _ e => e) (fun v hv => ⟨hL, hv⟩) hd)) (fun v w' h' L' hle hs' hk => hn v w' h' L' hle hs' hk.1 hk.2)
  | false =>
   intro hd;simp only [cond_false] at hd;exact vcOp_sound (K := fun v h' L' => (∀ e ∈ Lr, e ∈ L') ∧ k v h' L') ha hs (fun _ e => e) hd (fun v w' h' L' hle hs' hk => hn v w' h' L' hle hs' hk.1 hk.2)
 unfold wpOp;rw [ho];simp only;unfold StepK at hh;cases hg : o.guard with
 | none =>
  rw [hg] at hh;rw [if_pos (by simp [Region.wanted, hg])];exact .inl (run hh)
 | some g =>
  obtain ⟨j, want⟩ := g;rw [hg] at hh;simp only at hh;cases hd : (ops[j]?).bind (·.dst) with
  | none => rw [hd] at hh; exact hh.elim
  | some d =>
   rw [hd] at hh;simp only at hh
   have hdN : d < N := by
    cases ho' : ops[j]? with
    | none => rw [ho'] at hd; cases hd
    | some o' =>
     rw [ho'] at hd;have : dstOk N o' = true := List.all_eq_true.1 hall o' (by rw [Array.mem_toList_iff]; exact Array.mem_of_getElem? ho');have hj' : o'.dst = some d := hd;rw [dstOk, hj'] at this;exact Nat.blt_eq.mp this
   cases hgs : Fr.get s d with
   | none => rw [hgs] at hh; exact hh.elim
   | some u =>
    rw [hgs] at hh;have hy := yielded_get ha hd hgs hdN;cases u with
    | bool b =>
     simp only at hy;have no : k undef h L → next (a.put o.dst undef) w := fun hk => hn undef w h L (GH.le_refl h) hs hL hk
     cases b <;> cases want
     · rw [if_pos (by simp [Region.wanted, hg, hy])]; exact .inl (run hh)
     · rw [if_neg (by simp [Region.wanted, hg, hy])]; exact no hh
     · rw [if_neg (by simp [Region.wanted, hg, hy])]; exact no hh
     · rw [if_pos (by simp [Region.wanted, hg, hy])]; exact .inl (run hh)
    | tuple vs =>
     simp only at hy;rw [if_neg (by simp [Region.wanted, hg, hy])];exact hn undef w h L (GH.le_refl h) hs hL hh
    | _ => exact hh.elim
end
end Go.Brd
namespace Go.Brd
def binding (e : Edge) : Bool := Region.binds .any e
def maskOf (acc : List Nat) (o : Oper) : Nat := o.after.toList.foldl (fun s e => bif binding e then Nat.lor (Nat.lor s (2 ^ e.on)) (acc.getD e.on 0) else s) 0
def masksGo : List Oper → List Nat → List Nat
 | [], acc => acc
 | o :: r, acc => masksGo r (acc ++ [maskOf acc o])
def masksOk (M : List Nat) : Nat → List Oper → Bool
 | _, [] => true
 | j, o :: r => Nat.beq (M.getD j 0) (maskOf M o) && o.after.toList.all (fun e => !binding e || Nat.blt e.on j) && masksOk M (j + 1) r
def depsHas (o : Oper) (j : Nat) : Bool := o.after.toList.any fun e => binding e && Nat.beq e.on j
def pairOk (ops : Array Oper) (M : List Nat) (i j : Nat) : Bool :=
 !Nat.beq i j && match ops[i]?, ops[j]? with
  | some x, some y => !depsHas x j && (Nat.testBit (M.getD j 0) i || (isRd x.op && apart ops x y))
  | _, _ => false
def pairsOk (ops : Array Oper) (M : List Nat) : List Nat → Bool
 | [] => true
 | i :: r => r.all (pairOk ops M i) && pairsOk ops M r
def drawOk (N : Nat) (ops : Array Oper) (σ : List Nat) : Bool :=
 ops.toList.all (dstOk N) && masksOk (masksGo ops.toList []) 0 ops.toList && Nat.beq σ.length ops.size && σ.all (fun i => Nat.blt i ops.size) && (List.range ops.size).all (fun i => σ.contains i) && pairsOk ops (masksGo ops.toList []) σ
section
variable {P : Program} {c : World} {N : Nat} {ops : Array Oper} {Lr : Own}
theorem mask_bits (acc : List Nat) (i : Nat) : ∀ (es : List Edge) (s : Nat), Nat.testBit (es.foldl (fun s e => bif binding e then Nat.lor (Nat.lor s (2 ^ e.on)) (acc.getD e.on 0) else s) s) i = true →
 Nat.testBit s i = true ∨ ∃ e ∈ es, binding e = true ∧ (i = e.on ∨ Nat.testBit (acc.getD e.on 0) i = true)
 | [], s, h => .inl h
 | e :: es, s, h => by
  simp only [List.foldl_cons] at h;rcases mask_bits acc i es _ h with h | ⟨e', he', hb, hh⟩
  · cases hb : binding e with
    | false => rw [hb] at h; exact .inl h
    | true =>
     rw [hb] at h;simp only [cond_true] at h;have h2 : Nat.testBit ((s ||| 2 ^ e.on) ||| acc.getD e.on 0) i = true := h;rw [Nat.testBit_or, Nat.testBit_or] at h2;simp only [Bool.or_eq_true] at h2;rcases h2 with (h2 | h2) | h2
     · exact .inl h2
     · rw [Nat.testBit_two_pow] at h2; exact .inr ⟨e, by simp, hb, .inl (by simp at h2; omega)⟩
     · exact .inr ⟨e, by simp, hb, .inr h2⟩
  · exact .inr ⟨e', by simp [he'], hb, hh⟩
theorem masksOk_at {M : List Nat} : ∀ {l : List Oper} {j k : Nat} {o : Oper}, masksOk M j l = true → l[k]? = some o → M.getD (j + k) 0 = maskOf M o ∧ ∀ e ∈ o.after, binding e = true → e.on < j + k
 | [], _, _, _, _, h => by simp at h
 | x :: r, j, 0, o, hm, h => by
  simp only [List.getElem?_cons_zero, Option.some.injEq] at h;subst h;simp only [masksOk, Bool.and_eq_true] at hm;refine ⟨Nat.eq_of_beq_eq_true hm.1.1, fun e he hb => ?_⟩;have := List.all_eq_true.1 hm.1.2 e (Array.mem_toList_iff.2 he);simp only [hb, Bool.not_true, Bool.false_or] at this;exact Nat.blt_eq.mp this
 | x :: r, j, k + 1, o, hm, h => by
  simp only [List.getElem?_cons_succ] at h;simp only [masksOk, Bool.and_eq_true] at hm;have := masksOk_at hm.2 h;rw [show j + (k + 1) = j + 1 + k by omega]; exact this
theorem mask_closed {M : List Nat} (hm : masksOk M 0 ops.toList = true) {listed : Nat → Prop} (hcl : ∀ j o, ops[j]? = some o → listed j → ∀ e ∈ o.after, binding e = true → listed e.on) :
 ∀ (j : Nat) (o : Oper), ops[j]? = some o → (∀ e ∈ o.after, binding e = true → listed e.on) → ∀ i, Nat.testBit (M.getD j 0) i = true → listed i := by
 intro j
 induction j using Nat.strongRecOn with
 | _ j ih =>
  intro o ho hd i hi;have ho' : ops.toList[j]? = some o := by simpa using ho
  obtain ⟨h1, h2⟩ := masksOk_at hm ho';simp only [Nat.zero_add] at h1 h2;rw [h1] at hi;unfold maskOf at hi;rcases mask_bits M i _ 0 hi with h | ⟨e, he, hb, h⟩
  · simp at h
  · have he' : e ∈ o.after := Array.mem_toList_iff.1 he
    have hl := hd e he' hb;rcases h with rfl | h
    · exact hl
    · have hlt := h2 e he' hb
      obtain ⟨hj, -⟩ := Array.getElem?_eq_some_iff.1 ho;obtain ⟨o2, ho2⟩ : ∃ o2, ops[e.on]? = some o2 := ⟨ops[e.on]'(by omega), Array.getElem?_eq_getElem _⟩;exact ih e.on hlt o2 ho2 (hcl e.on o2 ho2 hl) i h
theorem pairsOk_append {M : List Nat} : ∀ {A B : List Nat}, pairsOk ops M (A ++ B) = true → (∀ i ∈ A, ∀ j ∈ B, pairOk ops M i j = true) ∧ pairsOk ops M B = true
 | [], _, h => ⟨fun _ hi => by simp at hi, h⟩
 | i :: A, B, h => by
  simp only [List.cons_append, pairsOk, Bool.and_eq_true] at h;obtain ⟨h1, h2⟩ := pairsOk_append h.2;refine ⟨fun x hx j hj => ?_, h2⟩;rcases List.mem_cons.1 hx with rfl | hx
  · exact List.all_eq_true.1 h.1 j (by simp [hj])
  · exact h1 x hx j hj
theorem pairsOk_drop {M : List Nat} : ∀ {A B : List Nat} {i : Nat}, pairsOk ops M (A ++ i :: B) = true → pairsOk ops M (A ++ B) = true
 | [], _, _, h => by simp only [List.nil_append, pairsOk, Bool.and_eq_true] at h; exact h.2
 | x :: A, B, i, h => by
  simp only [List.cons_append, pairsOk, Bool.and_eq_true] at h ⊢;refine ⟨List.all_eq_true.2 fun j hj => List.all_eq_true.1 h.1 j ?_, pairsOk_drop h.2⟩;rcases List.mem_append.1 hj with hj | hj <;> simp [hj]
theorem pairsOk_nodup {M : List Nat} : ∀ {l : List Nat}, pairsOk ops M l = true → l.Nodup
 | [], _ => List.nodup_nil
 | i :: r, h => by
  simp only [pairsOk, Bool.and_eq_true] at h;refine List.nodup_cons.2 ⟨fun hi => ?_, pairsOk_nodup h.2⟩;have := List.all_eq_true.1 h.1 i hi;simp [pairOk] at this
theorem draw_any {M : List Nat} {h0 : GH} {Q : Post} {R : Exit → Act → World → Prop} (hall : ops.toList.all (dstOk N) = true) (hm : masksOk M 0 ops.toList = true)
 (hR : ∀ a' w' s' h' L', Agrees N s' a' → St c h' L' w' → Q s' h' L' → GH.le h0 h' → R .normal a' w') :
 ∀ (fuel : Nat) (σ : List Nat) (listed : Array Bool) (s : Fr) (h : GH) (L : Own) (a : Act) (w : World), fuel = σ.length → pairsOk ops M σ = true → listed.size = ops.size → (∀ i, i < ops.size → (listed.getD i true = false ↔ i ∈ σ)) → (∀ i ∈ σ, i < ops.size) →
  (∀ j o, ops[j]? = some o → listed.getD j true = true → ∀ e ∈ o.after, binding e = true → listed.getD e.on false = true) → Agrees N s a → St c h L w → (∀ e ∈ Lr, e ∈ L) → GH.le h0 h → vcDraw P c ops Lr σ s h L Q → wpAny P .any ops R fuel listed a w := by
 have getDs : ∀ (l : Array Bool) (i : Nat) (b b' : Bool), i < l.size → l.getD i b = l.getD i b' := fun l i b b' hi => by simp [Array.getD, hi]
 intro fuel
 induction fuel with
 | zero =>
  intro σ listed s h L a w hf hp hsz hl hlt hcl ha hs hL hle hv;have hσ : σ = [] := List.length_eq_zero_iff.1 hf.symm;subst hσ;obtain ⟨s', h1, h2⟩ := hv;refine ⟨?_, hR a w s' h L (ha.sub h1) hs h2 hle⟩;unfold Region.ready;apply List.filter_eq_nil_iff.2;intro i hi hc;simp only [Bool.and_eq_true, Bool.not_eq_true'] at hc;have := (hl i (by simpa using hi)).1 hc.1;simp at this
 | succ fuel ih =>
  intro σ listed s h L a w hf hp hsz hl hlt hcl ha hs hL hle hv;refine ⟨fun hnil => ?_, fun i hi => ?_⟩
  ·
   exfalso;cases σ with
   | nil => simp at hf
   | cons i r =>
    have hin := hlt i (by simp);obtain ⟨o, ho⟩ : ∃ o, ops[i]? = some o := ⟨ops[i], Array.getElem?_eq_getElem _⟩
    have : i ∈ Region.ready .any ops listed := by
     unfold Region.ready;refine List.mem_filter.2 ⟨by simpa using hin, ?_⟩;simp only [Bool.and_eq_true, Bool.not_eq_true'];refine ⟨(hl i hin).2 (by simp), ?_⟩;simp only [ho, Option.map_some, Option.getD_some];rw [Array.all_eq_true'];intro e he;cases hb : binding e with
     | false => unfold binding at hb; simp [hb]
     | true =>
      have ho' : ops.toList[i]? = some o := by simpa using ho
      have hlt2 := (masksOk_at hm ho').2 e he hb;simp only [Nat.zero_add] at hlt2;cases hld : listed.getD e.on true with
      | true => rw [getDs _ _ _ true (by omega)]; simp [hld]
      | false =>
       exfalso;have hmem := (hl e.on (by omega)).1 hld;rcases List.mem_cons.1 hmem with h3 | h3
       · omega
       · simp only [pairsOk, Bool.and_eq_true] at hp
         have := List.all_eq_true.1 hp.1 e.on h3;obtain ⟨o2, ho2⟩ : ∃ o2, ops[e.on]? = some o2 := ⟨ops[e.on]'(by omega), Array.getElem?_eq_getElem _⟩;simp only [pairOk, ho, ho2, Bool.and_eq_true, Bool.not_eq_true'] at this;have hd : depsHas o e.on = true := List.any_eq_true.2 ⟨e, Array.mem_toList_iff.2 he, by simp [hb]⟩;rw [hd] at this;exact absurd this.2.1 (by simp)
    rw [hnil] at this; simp at this
  · unfold Region.ready at hi
    obtain ⟨hi1, hi2⟩ := List.mem_filter.1 hi;have hin : i < ops.size := by simpa using hi1
    obtain ⟨o, ho⟩ : ∃ o, ops[i]? = some o := ⟨ops[i], Array.getElem?_eq_getElem _⟩;simp only [Bool.and_eq_true, Bool.not_eq_true', ho, Option.map_some, Option.getD_some] at hi2;obtain ⟨hi2, hi3⟩ := hi2
    have hdeps : ∀ e ∈ o.after, binding e = true → listed.getD e.on false = true := fun e he hb => by
     have := (Array.all_eq_true'.1 hi3) e he;unfold binding at hb
     simpa [hb] using this
    have hmem := (hl i hin).1 hi2;obtain ⟨A, B, rfl⟩ := List.append_of_mem hmem
    have hA : ∀ x ∈ A, ∃ ox, ops[x]? = some ox ∧ isRd ox.op = true ∧ apart ops ox o = true := by
     intro x hx;have hxn := hlt x (by simp [hx]);obtain ⟨ox, hox⟩ : ∃ o, ops[x]? = some o := ⟨ops[x], Array.getElem?_eq_getElem _⟩;have hpr := (pairsOk_append hp).1 x hx i (by simp);simp only [pairOk, hox, ho, Bool.and_eq_true, Bool.or_eq_true] at hpr;rcases hpr.2.2 with hb | hb
     · exfalso
       have hcl' : ∀ j o, ops[j]? = some o → (listed.getD j false = true) → ∀ e ∈ o.after, binding e = true → listed.getD e.on false = true := fun j o' ho' hj => hcl j o' ho' (by
        have : j < ops.size := (Array.getElem?_eq_some_iff.1 ho').1;rw [getDs _ _ _ false (by omega)]; exact hj)
       have := mask_closed (listed := fun j => listed.getD j false = true) hm hcl' i o ho hdeps x hb;have h2 := (hl x hxn).2 (by simp [hx]);rw [getDs _ _ true false (by omega)] at h2;rw [h2] at this; cases this
     · exact ⟨ox, hox, hb.1, hb.2⟩
    have hv2 := vcDraw_front ho hA hL hv;unfold vcDraw at hv2;rw [ho] at hv2;refine wpOp_of_step (R := R) ho hall ha hs hL (fun v w' h' L' hle' hs' hL' hk => ?_) hv2;have hdo : dstOk N o = true := List.all_eq_true.1 hall o (by rw [Array.mem_toList_iff]; exact Array.mem_of_getElem? ho);have hnd := pairsOk_nodup hp;refine ih (A ++ B) (listed.setIfInBounds i true) (updF s o.dst v) h' L' (a.put o.dst v) w' (by simp at hf ⊢; omega) (pairsOk_drop hp) (by simpa using hsz) ?_ (fun x hx => hlt x (by rcases List.mem_append.1 hx with h | h <;> simp [h])) ?_ (ha.upd hdo) hs' hL' (GH.le_trans hle hle') hk
    · intro x hx
      have hnot : i ∉ A ++ B := by
       exact (List.nodup_cons.1 ((List.perm_middle (a := i) (l₁ := A) (l₂ := B)).nodup_iff.1 hnd)).1
      by_cases hxi : x = i
      · subst hxi
        have : (listed.setIfInBounds x true).getD x true = true := by simp [Array.getD]
        rw [this];exact ⟨fun h => (by cases h), fun h => (hnot h).elim⟩
      · have : (listed.setIfInBounds i true).getD x true = listed.getD x true := by
         simp only [Array.getD_eq_getD_getElem?, Array.getElem?_setIfInBounds, if_neg (Ne.symm hxi)]
        rw [this, hl x hx];constructor
        · intro h
          rcases List.mem_append.1 h with h | h
          · simp [h]
          · rcases List.mem_cons.1 h with h | h
            · exact (hxi h).elim
            · simp [h]
        · intro h
          rcases List.mem_append.1 h with h | h <;> simp [h]
    · intro j oj hoj hj e he hb
      have mono : listed.getD e.on false = true → (listed.setIfInBounds i true).getD e.on false = true := fun h => by
       by_cases hei : e.on = i
       · subst hei
         have : e.on < listed.size := by omega
         simp [Array.getD, this]
       · simp only [Array.getD_eq_getD_getElem?, Array.getElem?_setIfInBounds, if_neg (Ne.symm hei)] at h ⊢; exact h
      by_cases hji : j = i
      · subst hji
        rw [ho] at hoj; cases hoj;exact mono (hdeps e he hb)
      · have : (listed.setIfInBounds i true).getD j true = listed.getD j true := by
         simp only [Array.getD_eq_getD_getElem?, Array.getElem?_setIfInBounds, if_neg (Ne.symm hji)]
        rw [this] at hj;exact mono (hcl j oj hoj hj e he hb)
theorem DoDraw.intro (hmix : P.follows .mixedOrders = true) (σ : List Nat) (Lr : Own) {s : Fr} {h : GH} {L : Own} {Q : Post} (hok : drawOk N ops σ = true) (hL : ∀ e ∈ Lr, e ∈ L) (hv : vcDraw P c ops Lr σ s h L Q) : DoDraw P c N ops s h L Q := by
 simp only [drawOk, Bool.and_eq_true] at hok;obtain ⟨⟨⟨⟨⟨hall, hm⟩, hlen⟩, hlt⟩, hcov⟩, hp⟩ := hok;refine ⟨fun a w t R ha hs hR => ?_⟩;simp only [Region.schedule, hmix, Bool.true_or, if_true];refine wpAny_sound ops.size t _ a w ?_;have hlen' := Nat.eq_of_beq_eq_true hlen;refine draw_any (h0 := h) (Q := Q) (Lr := Lr) (c := c) hall hm (fun a' w' s' h' L' h1 h2 h3 h4 => hR a' w' s' h' L' h1 h4 h2 h3) ops.size σ _ s h L a w hlen'.symm hp (by simp) ?_ (fun i hi => Nat.blt_eq.mp (List.all_eq_true.1 hlt i hi)) ?_ ha hs hL (GH.le_refl h) hv
 · intro i hi
   have : σ.contains i = true := List.all_eq_true.1 hcov i (by simpa using hi);simp only [Array.getD, Array.size_replicate, hi, dite_true]
   simpa using this
 · intro j o ho hj
   have hjn := (Array.getElem?_eq_some_iff.1 ho).1;simp [Array.getD, hjn] at hj
end
end Go.Brd
namespace Go.Brd
def isEff (ops : Array Oper) (i : Nat) : Bool := match ops[i]? with
 | some o => !isRd o.op
 | none => false
def pairOk2 (ops : Array Oper) (M : List Nat) (i j : Nat) : Bool :=
 !Nat.beq i j && match ops[i]?, ops[j]? with
  | some x, some y => !depsHas x j && (Nat.testBit (M.getD j 0) i || (isRd x.op && apart ops x y) || (!isRd x.op && !isRd y.op))
  | _, _ => false
def pairsOk2 (ops : Array Oper) (M : List Nat) : List Nat → Bool
 | [] => true
 | i :: r => r.all (pairOk2 ops M i) && pairsOk2 ops M r
def exts (M : List Nat) : Nat → List Nat → List (List Nat)
 | 0, _ => [[]]
 | f + 1, E => E.flatMap fun j => bif E.all (fun i => !Nat.testBit (M.getD j 0) i) then (exts M f (E.erase j)).map (j :: ·) else []
def orderOk (ops : Array Oper) (M : List Nat) (σ : List Nat) : Bool :=
 Nat.beq σ.length ops.size && σ.all (fun i => Nat.blt i ops.size) && (List.range ops.size).all (fun i => σ.contains i) && pairsOk2 ops M σ
def drawsOk (N : Nat) (ops : Array Oper) (σ0 : List Nat) (σs : List (List Nat)) : Bool :=
 ops.toList.all (dstOk N) && masksOk (masksGo ops.toList []) 0 ops.toList && (σ0 :: σs).all (orderOk ops (masksGo ops.toList [])) &&
  (exts (masksGo ops.toList []) (σ0.filter (isEff ops)).length (σ0.filter (isEff ops))).all (fun e => (σ0 :: σs).any fun σ => (σ.filter (isEff ops)) == e)
section
variable {P : Program} {c : World} {N : Nat} {ops : Array Oper} {Lr : Own}
theorem pairsOk2_append {M : List Nat} : ∀ {A B : List Nat}, pairsOk2 ops M (A ++ B) = true → (∀ i ∈ A, ∀ j ∈ B, pairOk2 ops M i j = true) ∧ pairsOk2 ops M B = true
 | [], _, h => ⟨fun _ hi => by simp at hi, h⟩
 | i :: A, B, h => by
  simp only [List.cons_append, pairsOk2, Bool.and_eq_true] at h;obtain ⟨h1, h2⟩ := pairsOk2_append h.2;refine ⟨fun x hx j hj => ?_, h2⟩;rcases List.mem_cons.1 hx with rfl | hx
  · exact List.all_eq_true.1 h.1 j (by simp [hj])
  · exact h1 x hx j hj
theorem pairsOk2_drop {M : List Nat} : ∀ {A B : List Nat} {i : Nat}, pairsOk2 ops M (A ++ i :: B) = true → pairsOk2 ops M (A ++ B) = true
 | [], _, _, h => by simp only [List.nil_append, pairsOk2, Bool.and_eq_true] at h; exact h.2
 | x :: A, B, i, h => by
  simp only [List.cons_append, pairsOk2, Bool.and_eq_true] at h ⊢;refine ⟨List.all_eq_true.2 fun j hj => List.all_eq_true.1 h.1 j ?_, pairsOk2_drop h.2⟩;rcases List.mem_append.1 hj with hj | hj <;> simp [hj]
theorem pairsOk2_nodup {M : List Nat} : ∀ {l : List Nat}, pairsOk2 ops M l = true → l.Nodup
 | [], _ => List.nodup_nil
 | i :: r, h => by
  simp only [pairsOk2, Bool.and_eq_true] at h;refine List.nodup_cons.2 ⟨fun hi => ?_, pairsOk2_nodup h.2⟩;have := List.all_eq_true.1 h.1 i hi;simp [pairOk2] at this
structure Go (ops : Array Oper) (M : List Nat) (σ : List Nat) (listed : Array Bool) : Prop where
 pairs : pairsOk2 ops M σ = true
 size : listed.size = ops.size
 un : ∀ i, i < ops.size → (listed.getD i true = false ↔ i ∈ σ)
 lt : ∀ i ∈ σ, i < ops.size
 cl : ∀ j o, ops[j]? = some o → listed.getD j true = true → ∀ e ∈ o.after, binding e = true → listed.getD e.on false = true
theorem getDs (l : Array Bool) (i : Nat) (b b' : Bool) (hi : i < l.size) : l.getD i b = l.getD i b' := by simp [Array.getD, hi]
theorem Go.first {M : List Nat} (hm : masksOk M 0 ops.toList = true) {i : Nat} {r : List Nat} {listed : Array Bool} (g : Go ops M (i :: r) listed) : i ∈ Region.ready .any ops listed := by
 obtain ⟨hp, hsz, hl, hlt, hcl⟩ := g;have hin := hlt i (by simp);obtain ⟨o, ho⟩ : ∃ o, ops[i]? = some o := ⟨ops[i], Array.getElem?_eq_getElem _⟩;unfold Region.ready;refine List.mem_filter.2 ⟨by simpa using hin, ?_⟩;simp only [Bool.and_eq_true, Bool.not_eq_true'];refine ⟨(hl i hin).2 (by simp), ?_⟩;simp only [ho, Option.map_some, Option.getD_some];rw [Array.all_eq_true'];intro e he;cases hb : binding e with
 | false => unfold binding at hb; simp [hb]
 | true =>
  have ho' : ops.toList[i]? = some o := by simpa using ho
  have hlt2 := (masksOk_at hm ho').2 e he hb;simp only [Nat.zero_add] at hlt2;cases hld : listed.getD e.on true with
  | true => rw [getDs _ _ _ true (by omega)]; simp [hld]
  | false =>
   exfalso;have hmem := (hl e.on (by omega)).1 hld;rcases List.mem_cons.1 hmem with h3 | h3
   · omega
   · simp only [pairsOk2, Bool.and_eq_true] at hp
     have := List.all_eq_true.1 hp.1 e.on h3;obtain ⟨o2, ho2⟩ : ∃ o2, ops[e.on]? = some o2 := ⟨ops[e.on]'(by omega), Array.getElem?_eq_getElem _⟩;simp only [pairOk2, ho, ho2, Bool.and_eq_true, Bool.not_eq_true'] at this;have hd : depsHas o e.on = true := List.any_eq_true.2 ⟨e, Array.mem_toList_iff.2 he, by simp [hb]⟩;rw [hd] at this;exact absurd this.2.1 (by simp)
theorem Go.pick {M : List Nat} (hm : masksOk M 0 ops.toList = true) {σ : List Nat} {listed : Array Bool} (g : Go ops M σ listed) {i : Nat} (hi : i ∈ Region.ready .any ops listed) :
 ∃ o A B, ops[i]? = some o ∧ σ = A ++ i :: B ∧ (∀ x ∈ σ, Nat.testBit (M.getD i 0) x = false) ∧ Go ops M (A ++ B) (listed.setIfInBounds i true) := by
 obtain ⟨hp, hsz, hl, hlt, hcl⟩ := g;unfold Region.ready at hi;obtain ⟨hi1, hi2⟩ := List.mem_filter.1 hi;have hin : i < ops.size := by simpa using hi1
 obtain ⟨o, ho⟩ : ∃ o, ops[i]? = some o := ⟨ops[i], Array.getElem?_eq_getElem _⟩;simp only [Bool.and_eq_true, Bool.not_eq_true', ho, Option.map_some, Option.getD_some] at hi2;obtain ⟨hi2, hi3⟩ := hi2
 have hdeps : ∀ e ∈ o.after, binding e = true → listed.getD e.on false = true := fun e he hb => by
  have := (Array.all_eq_true'.1 hi3) e he;unfold binding at hb
  simpa [hb] using this
 have hmem := (hl i hin).1 hi2;obtain ⟨A, B, rfl⟩ := List.append_of_mem hmem;refine ⟨o, A, B, ho, rfl, ?_, ?_⟩
 · intro x hx
   cases hb : Nat.testBit (M.getD i 0) x with
   | false => rfl
   | true =>
    exfalso;have hxn := hlt x hx
    have hcl' : ∀ j o, ops[j]? = some o → (listed.getD j false = true) → ∀ e ∈ o.after, binding e = true → listed.getD e.on false = true := fun j o' ho' hj => hcl j o' ho' (by
     have : j < ops.size := (Array.getElem?_eq_some_iff.1 ho').1;rw [getDs _ _ _ false (by omega)]; exact hj)
    have := mask_closed (listed := fun j => listed.getD j false = true) hm hcl' i o ho hdeps x hb;have h2 := (hl x hxn).2 hx;rw [getDs _ _ true false (by omega)] at h2;rw [h2] at this; cases this
 · have hnd := pairsOk2_nodup hp
   refine ⟨pairsOk2_drop hp, by simpa using hsz, ?_, fun x hx => hlt x (by rcases List.mem_append.1 hx with h | h <;> simp [h]), ?_⟩
   · intro x hx
     have hnot : i ∉ A ++ B := (List.nodup_cons.1 ((List.perm_middle (a := i) (l₁ := A) (l₂ := B)).nodup_iff.1 hnd)).1;by_cases hxi : x = i
     · subst hxi
       have : (listed.setIfInBounds x true).getD x true = true := by simp [Array.getD]
       rw [this];exact ⟨fun h => (by cases h), fun h => (hnot h).elim⟩
     · have : (listed.setIfInBounds i true).getD x true = listed.getD x true := by
        simp only [Array.getD_eq_getD_getElem?, Array.getElem?_setIfInBounds, if_neg (Ne.symm hxi)]
       rw [this, hl x hx];constructor
       · intro h
         rcases List.mem_append.1 h with h | h
         · simp [h]
         · rcases List.mem_cons.1 h with h | h
           · exact (hxi h).elim
           · simp [h]
       · intro h
         rcases List.mem_append.1 h with h | h <;> simp [h]
   · intro j oj hoj hj e he hb
     have mono : listed.getD e.on false = true → (listed.setIfInBounds i true).getD e.on false = true := fun h => by
      by_cases hei : e.on = i
      · subst hei
        have : e.on < listed.size := by omega
        simp [Array.getD, this]
      · simp only [Array.getD_eq_getD_getElem?, Array.getElem?_setIfInBounds, if_neg (Ne.symm hei)] at h ⊢; exact h
     by_cases hji : j = i
     · subst hji
       rw [ho] at hoj; cases hoj;exact mono (hdeps e he hb)
     · have : (listed.setIfInBounds i true).getD j true = listed.getD j true := by
        simp only [Array.getD_eq_getD_getElem?, Array.getElem?_setIfInBounds, if_neg (Ne.symm hji)]
       rw [this] at hj;exact mono (hcl j oj hoj hj e he hb)
theorem lin_step {M : List Nat} (hm : masksOk M 0 ops.toList = true) {σ : List Nat} {listed : Array Bool} (g : Go ops M σ listed) {fuel t : Nat} (hf : σ.length = fuel + 1) :
 ∃ i ∈ Region.ready .any ops listed, ∃ t', Region.linearise.go .any ops (fuel + 1) t listed [] = i :: Region.linearise.go .any ops fuel t' (listed.setIfInBounds i true) [] := by
 cases σ with
 | nil => simp at hf
 | cons x r =>
  have hx := g.first hm
  have hne : 0 < (Region.ready .any ops listed).length := List.length_pos_of_mem hx;have hlt : t % (Region.ready .any ops listed).length < (Region.ready .any ops listed).length := Nat.mod_lt _ hne;refine ⟨(Region.ready .any ops listed)[t % (Region.ready .any ops listed).length], List.getElem_mem _, t / (Region.ready .any ops listed).length, ?_⟩;have hi : (Region.ready .any ops listed)[t % (Region.ready .any ops listed).length]? = some (Region.ready .any ops listed)[t % (Region.ready .any ops listed).length] := List.getElem?_eq_getElem hlt
  have e1 : Region.linearise.go .any ops (fuel + 1) t listed [] = (match (Region.ready .any ops listed)[t % (Region.ready .any ops listed).length]? with
   | some i => Region.linearise.go .any ops fuel (t / (Region.ready .any ops listed).length) (listed.setIfInBounds i true) [i]
   | none => [].reverse) := rfl
  rw [e1, hi];simp only;rw [linearise_go_acc];rfl
theorem lin_exts {M : List Nat} (hm : masksOk M 0 ops.toList = true) : ∀ (fuel t : Nat) (σ : List Nat) (listed : Array Bool), σ.length = fuel → Go ops M σ listed →
 (Region.linearise.go .any ops fuel t listed []).filter (isEff ops) ∈ exts M (σ.filter (isEff ops)).length (σ.filter (isEff ops))
 | 0, t, σ, listed, hf, g => by
  have hσ : σ = [] := List.length_eq_zero_iff.1 hf;subst hσ;simp [Region.linearise.go, exts]
 | fuel + 1, t, σ, listed, hf, g => by
  obtain ⟨i, hi, t', e⟩ := lin_step (t := t) hm g hf;obtain ⟨o, A, B, ho, rfl, hmask, g'⟩ := g.pick hm hi;rw [e];have hlen : (A ++ B).length = fuel := by simp at hf ⊢; omega
  have ih := lin_exts hm fuel t' (A ++ B) _ hlen g';have hnd := pairsOk2_nodup g.pairs;cases hE : isEff ops i with
  | false =>
   rw [List.filter_cons_of_neg (by simp [hE])];have : (A ++ i :: B).filter (isEff ops) = (A ++ B).filter (isEff ops) := by simp [List.filter_append, List.filter_cons, hE]
   rw [this]; exact ih
  | true =>
   rw [List.filter_cons_of_pos (by simp [hE])];have h1 : (A ++ i :: B).filter (isEff ops) = A.filter (isEff ops) ++ i :: B.filter (isEff ops) := by simp [List.filter_append, List.filter_cons, hE]
   have hnA : i ∉ A.filter (isEff ops) := fun h => by
    have h2 := (List.mem_filter.1 h).1;have := (List.nodup_cons.1 ((List.perm_middle (a := i) (l₁ := A) (l₂ := B)).nodup_iff.1 hnd)).1;exact this (by simp [h2])
   have h3 : ((A ++ i :: B).filter (isEff ops)).erase i = (A ++ B).filter (isEff ops) := by
    rw [h1, List.erase_append_right _ hnA, List.erase_cons_head, List.filter_append]
   have hl : ((A ++ i :: B).filter (isEff ops)).length = ((A ++ B).filter (isEff ops)).length + 1 := by
    rw [h1, List.filter_append]; simp; omega
   rw [hl];unfold exts;refine List.mem_flatMap.2 ⟨i, by rw [h1]; simp, ?_⟩
   have hall : ((A ++ i :: B).filter (isEff ops)).all (fun x => !Nat.testBit (M.getD i 0) x) = true := List.all_eq_true.2 fun x hx => by
    rw [hmask x (List.mem_filter.1 hx).1]; rfl
   rw [hall, h3];exact List.mem_map.2 ⟨_, ih, rfl⟩
theorem draw_fixed {M : List Nat} {h0 : GH} {Q : Post} {R : Exit → Act → World → Prop} (hall : ops.toList.all (dstOk N) = true) (hm : masksOk M 0 ops.toList = true)
 (hR : ∀ a' w' s' h' L', Agrees N s' a' → St c h' L' w' → Q s' h' L' → GH.le h0 h' → R .normal a' w') :
 ∀ (fuel t : Nat) (σ : List Nat) (listed : Array Bool) (s : Fr) (h : GH) (L : Own) (a : Act) (w : World), σ.length = fuel → Go ops M σ listed →
  σ.filter (isEff ops) = (Region.linearise.go .any ops fuel t listed []).filter (isEff ops) → Agrees N s a → St c h L w → (∀ e ∈ Lr, e ∈ L) → GH.le h0 h → vcDraw P c ops Lr σ s h L Q → wpOps P ops R (Region.linearise.go .any ops fuel t listed []) a w
 | 0, t, σ, listed, s, h, L, a, w, hf, g, hE, ha, hs, hL, hle, hv => by
  have hσ : σ = [] := List.length_eq_zero_iff.1 hf;subst hσ;obtain ⟨s', h1, h2⟩ := hv;simp only [Region.linearise.go, List.reverse_nil, wpOps];exact hR a w s' h L (ha.sub h1) hs h2 hle
 | fuel + 1, t, σ, listed, s, h, L, a, w, hf, g, hE, ha, hs, hL, hle, hv => by
  obtain ⟨i, hi, t', e⟩ := lin_step (t := t) hm g hf;have hnd := pairsOk2_nodup g.pairs;have hpr := g.pairs;have hgl := g.lt;obtain ⟨o, A, B, ho, rfl, hmask, g'⟩ := g.pick hm hi;have hnAB : i ∉ A ++ B := (List.nodup_cons.1 ((List.perm_middle (a := i) (l₁ := A) (l₂ := B)).nodup_iff.1 hnd)).1;rw [e] at hE ⊢
  have hA : ∀ x ∈ A, ∃ ox, ops[x]? = some ox ∧ isRd ox.op = true ∧ apart ops ox o = true := by
   intro x hx;have hxn := hgl x (by simp [hx]);obtain ⟨ox, hox⟩ : ∃ o, ops[x]? = some o := ⟨ops[x], Array.getElem?_eq_getElem _⟩;have hp2 := (pairsOk2_append hpr).1 x hx i (by simp);simp only [pairOk2, hox, ho, Bool.and_eq_true, Bool.or_eq_true] at hp2;rcases hp2.2.2 with (hb | hb) | hb
   · rw [hmask x (by simp [hx])] at hb; cases hb
   · exact ⟨ox, hox, hb.1, hb.2⟩
   · exfalso
     have he1 : isEff ops i = true := by unfold isEff; rw [ho]; exact hb.2
     have he2 : isEff ops x = true := by unfold isEff; rw [hox]; exact hb.1
     rw [List.filter_cons_of_pos (by simp [he1]), List.filter_append] at hE;cases hfa : A.filter (isEff ops) with
     | nil => have : x ∈ A.filter (isEff ops) := List.mem_filter.2 ⟨hx, he2⟩; rw [hfa] at this; simp at this
     | cons y ys =>
      rw [hfa] at hE;simp only [List.cons_append, List.cons.injEq] at hE;have hy : y ∈ A := (List.mem_filter.1 (show y ∈ A.filter (isEff ops) by rw [hfa]; simp)).1;rw [hE.1] at hy;exact hnAB (by simp [hy])
  have hv2 := vcDraw_front ho hA hL hv;unfold vcDraw at hv2;rw [ho] at hv2;have hdo : dstOk N o = true := List.all_eq_true.1 hall o (by rw [Array.mem_toList_iff]; exact Array.mem_of_getElem? ho)
  have hE2 : (A ++ B).filter (isEff ops) = (Region.linearise.go .any ops fuel t' (listed.setIfInBounds i true) []).filter (isEff ops) := by
   cases he1 : isEff ops i with
   | false =>
    rw [List.filter_cons_of_neg (by simp [he1]), List.filter_append, List.filter_cons_of_neg (by simp [he1])] at hE;rw [List.filter_append]; exact hE
   | true =>
    rw [List.filter_cons_of_pos (by simp [he1]), List.filter_append, List.filter_cons_of_pos (by simp [he1])] at hE
    have hfa : A.filter (isEff ops) = [] := by
     cases hfa : A.filter (isEff ops) with
     | nil => rfl
     | cons y ys =>
      rw [hfa] at hE;simp only [List.cons_append, List.cons.injEq] at hE;have hy : y ∈ A := (List.mem_filter.1 (show y ∈ A.filter (isEff ops) by rw [hfa]; simp)).1;rw [hE.1] at hy;exact (hnAB (by simp [hy])).elim
    rw [hfa] at hE;simp only [List.nil_append, List.cons.injEq, true_and] at hE;rw [List.filter_append, hfa, List.nil_append]; exact hE
  exact wpOp_of_step (R := R) ho hall ha hs hL (fun v w' h' L' hle' hs' hL' hk => draw_fixed hall hm hR fuel t' (A ++ B) _ (updF s o.dst v) h' L' (a.put o.dst v) w' (by simp at hf ⊢; omega) g' hE2 (ha.upd hdo) hs' hL' (GH.le_trans hle hle') hk) hv2
theorem DoDraw.intros (hmix : P.follows .mixedOrders = true) (σ0 : List Nat) (σs : List (List Nat)) (Lr : Own) {s : Fr} {h : GH} {L : Own} {Q : Post} (hok : drawsOk N ops σ0 σs = true) (hL : ∀ e ∈ Lr, e ∈ L) (hv : ∀ σ ∈ σ0 :: σs, vcDraw P c ops Lr σ s h L Q) : DoDraw P c N ops s h L Q := by
 simp only [drawsOk, Bool.and_eq_true] at hok;obtain ⟨⟨⟨hall, hm⟩, hord⟩, hcov⟩ := hok;refine ⟨fun a w t R ha hs hR => ?_⟩;simp only [Region.schedule, hmix, Bool.true_or, if_true]
 have mk : ∀ σ ∈ σ0 :: σs, σ.length = ops.size ∧ Go ops (masksGo ops.toList []) σ (Array.replicate ops.size false) := fun σ hσ => by
  have h1 := List.all_eq_true.1 hord σ hσ;simp only [orderOk, Bool.and_eq_true] at h1;obtain ⟨⟨⟨hlen, hlt⟩, hc⟩, hp⟩ := h1;refine ⟨Nat.eq_of_beq_eq_true hlen, hp, by simp, ?_, fun i hi => Nat.blt_eq.mp (List.all_eq_true.1 hlt i hi), ?_⟩
  · intro i hi
    have : σ.contains i = true := List.all_eq_true.1 hc i (by simpa using hi);simp only [Array.getD, Array.size_replicate, hi, dite_true]
    simpa using this
  · intro j o ho hj
    have hjn := (Array.getElem?_eq_some_iff.1 ho).1;simp [Array.getD, hjn] at hj
 obtain ⟨hl0, g0⟩ := mk σ0 (by simp);have hex := lin_exts hm ops.size t σ0 _ hl0 g0;have h1 := List.all_eq_true.1 hcov _ hex;obtain ⟨σ, hσ, he⟩ := List.any_eq_true.1 h1;obtain ⟨hl, g⟩ := mk σ hσ;exact draw_fixed (h0 := h) (Q := Q) (Lr := Lr) (c := c) hall hm (fun a' w' s' h' L' h1 h2 h3 h4 => hR a' w' s' h' L' h1 h4 h2 h3) ops.size t σ _ s h L a w hl g (eq_of_beq he) ha hs hL (GH.le_refl h) (hv σ hσ)
end
end Go.Brd
namespace Go.Brd
theorem DoDraw.cut {P : Program} {c : World} {N : Nat} {ops : Array Oper} {s : Fr} {h : GH} {L : Own} {Q : Post} (J : Fr → Post) (hd : DoDraw P c N ops s h L (J s)) (hk : ∀ s' h' L', GH.le h h' → J s s' h' L' → Q s' h' L') : DoDraw P c N ops s h L Q :=
 ⟨fun a w t R ha hs hR => hd.run a w t R ha hs fun a' w' s' h' L' h1 h2 h3 h4 => hR a' w' s' h' L' h1 h2 h3 (hk s' h' L' h2 h4)⟩
theorem fcons {α : Type} {p : α → Prop} {a : α} {l : List α} (h1 : p a) (h2 : ∀ x ∈ l, p x) : ∀ x ∈ a :: l, p x := fun x hx => by
 rcases List.mem_cons.1 hx with e | e
 · rw [e]; exact h1
 · exact h2 x e
theorem fnil {α : Type} {p : α → Prop} : ∀ x ∈ ([] : List α), p x := fun x hx => by simp at hx
end Go.Brd
namespace Go.Brd
def scalar (P : Program) (t : TypeId) : Bool := match P.underlying t with
 | some (.struct _) => false
 | some (.array _ _) => false
 | some _ => true
 | none => false
def aggN (P : Program) (t : TypeId) (n : Nat) : Bool := (match P.underlying t with
 | some (.struct _) => true
 | some (.array _ _) => true
 | _ => false) && (match P.info? t with
 | some i => Nat.beq i.size n
 | none => false)
def sizeIs (P : Program) (t : TypeId) (n : Nat) : Bool := match P.info? t with
 | some i => Nat.beq i.size n
 | none => false
def fieldIs (P : Program) (t : TypeId) (f : Nat) (off : Nat) : Bool := match P.underlying t with
 | some (.struct fs) => match fs[f]? with
  | some x => Nat.beq x.offset off && (match P.info? x.type with
   | some i => Nat.blt 0 i.size
   | none => false)
  | none => false
 | _ => false
def sliceOf (P : Program) (t e n : Nat) : Bool := (match P.underlying t with
 | some (.slice x) => Nat.beq x e
 | _ => false) && sizeIs P e n && Nat.blt 0 n
def arrayOf (P : Program) (t k e n : Nat) : Bool := (match P.underlying t with
 | some (.array m x) => Nat.beq m k && Nat.beq x e
 | _ => false) && sizeIs P e n
section
variable {P : Program}
theorem run_underlying {t : TypeId} {d : TypeDesc} (h : P.underlying t = some d) (w : World) : (underlying t).run P w = .ok d w := by
 unfold underlying program;simp only [bind, Sem.bind, Sem.run, h]; rfl
theorem run_info {t : TypeId} {i : TypeInfo} (h : P.info? t = some i) (w : World) : (typeInfo t).run P w = .ok i w := by
 unfold typeInfo program;simp only [bind, Sem.bind, Sem.run, h]; rfl
theorem run_sizeOf {t : TypeId} {n : Nat} (h : sizeIs P t n = true) (w : World) : (sizeOf t).run P w = .ok n w := by
 unfold sizeIs at h;split at h
 · rename_i i hi
   unfold sizeOf;rw [Sem.run_bind, run_info hi];have := Nat.eq_of_beq_eq_true h;show Result.ok i.size w = _;rw [this]
 · cases h
theorem aggN_size {t n : Nat} (h : aggN P t n = true) : sizeIs P t n = true := by
 unfold aggN at h; simp only [Bool.and_eq_true] at h; exact h.2
theorem run_isAgg_true {t n : Nat} (h : aggN P t n = true) (w : World) : (isAgg t).run P w = .ok true w := by
 unfold aggN at h; simp only [Bool.and_eq_true] at h;obtain ⟨h1, _⟩ := h;unfold isAgg;rw [Sem.run_bind];split at h1
 · rename_i fs hu; rw [run_underlying hu]; rfl
 · rename_i a b hu; rw [run_underlying hu]; rfl
 · cases h1
theorem run_isAgg_false {t : Nat} (h : scalar P t = true) (w : World) : (isAgg t).run P w = .ok false w := by
 unfold scalar at h;unfold isAgg;rw [Sem.run_bind];split at h
 · cases h
 · cases h
 · rename_i d h1 h2 hu
   rw [run_underlying hu];cases d with
   | struct fs => exact (h1 _ rfl).elim
   | array a b => exact (h2 _ _ rfl).elim
   | _ => rfl
 · cases h
def CellsAt (o : Obj) (off : Nat) (l : List Value) : Prop := ∃ cs E fr, o = .cells cs E fr ∧ ∀ j (hj : j < l.length), cs[off + j]? = some l[j]
theorem CellsAt.drop {o : Obj} {off k : Nat} {l : List Value} (h : CellsAt o off l) : CellsAt o (off + k) (l.drop k) := by
 obtain ⟨cs, E, fr, rfl, hc⟩ := h;refine ⟨cs, E, fr, rfl, fun j hj => ?_⟩;simp only [List.length_drop] at hj;have := hc (k + j) (by omega);rw [show off + k + j = off + (k + j) by omega, this, List.getElem_drop]
theorem CellsAt.take {o : Obj} {off k : Nat} {l : List Value} (h : CellsAt o off l) : CellsAt o off (l.take k) := by
 obtain ⟨cs, E, fr, rfl, hc⟩ := h;refine ⟨cs, E, fr, rfl, fun j hj => ?_⟩;simp only [List.length_take] at hj;rw [hc j (by omega), List.getElem_take]
theorem CellsAt.all (l : List Value) (E : TypeId) (fr : Nat × Nat) : CellsAt (.cells l.toArray E fr) 0 l := ⟨_, E, fr, rfl, fun j hj => by simp [hj]⟩
theorem CellsAt.cell {o : Obj} {off : Nat} {l : List Value} (h : CellsAt o off l) {w : World} {b : Nat} (hb : w.heap[b]? = some o) {j : Nat} (hj : j < l.length) : w.cell? ⟨b, off + j, none⟩ = some l[j] := by
 obtain ⟨cs, E, fr, rfl, hc⟩ := h;unfold World.cell?;simp only [hb, Option.isSome_none, Bool.false_eq_true, if_false];exact hc j hj
theorem addr_add (b off n : Nat) : (Addr.add ⟨b, off, none⟩ n) = ⟨b, off + n, none⟩ := by
 unfold Addr.add; split
 · subst n; rfl
 · rfl
theorem run_load {w : World} {a : Addr} {v : Value} (h : w.cell? a = some v) : (load a).run P w = .ok v w := by
 unfold load; simp only [Sem.run, h]
theorem run_loadCellsFrom {w : World} {b off : Nat} : ∀ (n i : Nat) (acc : Array Value) (l : List Value), (∀ j (hj : j < l.length), w.cell? ⟨b, off + (i + j), none⟩ = some l[j]) → n = l.length →
 (loadCellsFrom ⟨b, off, none⟩ i n acc).run P w = .ok (acc ++ l.toArray) w
 | 0, i, acc, l, _, hn => by
  have : l = [] := List.length_eq_zero_iff.1 hn.symm;subst this; simp [loadCellsFrom, pure, Sem.run]
 | n + 1, i, acc, l, h, hn => by
  cases l with
  | nil => cases hn
  | cons v r =>
   unfold loadCellsFrom;have h0 := h 0 (by simp);simp only [Nat.add_zero, List.getElem_cons_zero] at h0;rw [Sem.run_bind, addr_add, run_load h0, Result.andThen_ok, run_loadCellsFrom n (i + 1) (acc.push v) r ?_ (by simpa using hn)]
   · congr 1
     apply Array.toList_inj.1; simp
   · intro j hj
     have := h (j + 1) (by simpa using hj);rw [show i + 1 + j = i + (j + 1) by omega]; simpa using this
theorem run_loadVar_scalar {t : TypeId} (ht : scalar P t = true) {w : World} {a : Addr} {v : Value} (h : w.cell? a = some v) : (loadVar t a).run P w = .ok v w := by
 unfold loadVar;rw [Sem.run_bind, run_isAgg_false ht, Result.andThen_ok];exact run_load h
theorem run_loadVar_agg {t n : Nat} (ht : aggN P t n = true) {w : World} {b off : Nat} {l : List Value} (hn : l.length = n) (h : ∀ j (hj : j < l.length), w.cell? ⟨b, off + j, none⟩ = some l[j]) : (loadVar t ⟨b, off, none⟩).run P w = .ok (.agg l.toArray) w := by
 unfold loadVar;rw [Sem.run_bind, run_isAgg_true ht, Result.andThen_ok];show ((do let x ← sizeOf t; let y ← loadCells ⟨b, off, none⟩ x; pure (Value.agg y)) : Sem Value).run P w = _;rw [Sem.run_bind, run_sizeOf (aggN_size ht), Result.andThen_ok, Sem.run_bind];unfold loadCells;rw [run_loadCellsFrom n 0 #[] l (by intro j hj; simpa using h j hj) hn.symm];simp [pure, Sem.run]
end
def At (h : GH) (p : Value) (l : List Value) : Prop := ∃ b off o, p = .pointer (some ⟨b, off, none⟩) ∧ h b = some o ∧ CellsAt o off l
theorem At.mono {h h' : GH} {p : Value} {l : List Value} (hle : GH.le h h') (ha : At h p l) : At h' p l :=
 let ⟨b, off, o, e, hb, hc⟩ := ha; ⟨b, off, o, e, hle b o hb, hc⟩
section
variable {P : Program} {c : World} {h : GH} {L : Own} {K : Kont} {KR : Value → Prop}
theorem doV_pure {m : Sem Value} {v : Value} (hr : ∀ w, m.run P w = .ok v w) (hk : K v h L) : DoV P c m h L K := ⟨fun w s => ⟨v, w, h, L, hr w, GH.le_refl h, s, hk⟩⟩
theorem doV_st {m : Sem Value} {v : Value} (hr : ∀ w, St c h L w → m.run P w = .ok v w) (hk : K v h L) : DoV P c m h L K := ⟨fun w s => ⟨v, w, h, L, hr w s, GH.le_refl h, s, hk⟩⟩
theorem doR_pure {m : Sem Value} {v : Value} (hr : ∀ w, m.run P w = .ok v w) (hk : KR v) : DoR P c m h L KR := ⟨v, fun w _ _ _ _ _ => hr w, hk⟩
theorem doR_st {m : Sem Value} {v : Value} (hr : ∀ w h' L', GH.le h h' → (∀ e ∈ L, e ∈ L') → St c h' L' w → m.run P w = .ok v w) (hk : KR v) : DoR P c m h L KR := ⟨v, hr, hk⟩
theorem ql {t : TypeId} {p v : Value} {r : List Value} (ht : scalar P t = true) (ha : At h p (v :: r)) (hk : KR v) : DoR P c (Instr.loadAt t p) h L KR := by
 obtain ⟨b, off, o, rfl, hb, hc⟩ := ha;refine doR_st (fun w h' L' hle hLr s => ?_) hk;have := hc.cell (s.gh b o (hle b o hb)) (j := 0) (by simp);exact run_loadVar_scalar ht this
theorem load_agg {t n : Nat} {p : Value} {l : List Value} (ht : aggN P t n = true) (ha : At h p l) (hn : n ≤ l.length) (hk : KR (.agg (l.take n).toArray)) : DoR P c (Instr.loadAt t p) h L KR := by
 obtain ⟨b, off, o, rfl, hb, hc⟩ := ha;refine doR_st (fun w h' L' hle hLr s => ?_) hk;refine run_loadVar_agg ht (by simp; omega) fun j hj => ?_
 exact (hc.take (k := n)).cell (s.gh b o (hle b o hb)) hj
theorem qO {t : TypeId} {b off : Nat} {v : Value} {l : List Value} {E : TypeId} {fr : Nat × Nat} (ht : scalar P t = true) (ho : (b, Obj.cells l.toArray E fr) ∈ L) (hv : l[off]? = some v) (hk : KR v) :
 DoR P c (Instr.loadAt t (.pointer (some ⟨b, off, none⟩))) h L KR := by
 refine doR_st (fun w h' L' hle hLr s => ?_) hk;refine run_loadVar_scalar ht ?_;unfold World.cell?;simp only [s.own _ _ (hLr _ ho), Option.isSome_none, Bool.false_eq_true, if_false]
 simpa using hv
theorem load_ownAgg {t n : Nat} {b off : Nat} {l : List Value} {E : TypeId} {fr : Nat × Nat} (ht : aggN P t n = true) (ho : (b, Obj.cells l.toArray E fr) ∈ L) (hn : off + n ≤ l.length) (hk : KR (.agg ((l.drop off).take n).toArray)) :
 DoR P c (Instr.loadAt t (.pointer (some ⟨b, off, none⟩))) h L KR := by
 refine doR_st (fun w h' L' hle hLr s => ?_) hk;refine run_loadVar_agg ht (by simp; omega) fun j hj => ?_
 have := ((CellsAt.all l E fr).drop (k := off)).take (k := n) |>.cell (s.own _ _ (hLr _ ho)) hj
 simpa using this
theorem run_fieldPlace {t f off b o : Nat} (hf : fieldIs P t f off = true) (w : World) : (Instr.fieldAt t (.pointer (some ⟨b, o, none⟩)) f).run P w = .ok (.pointer (some ⟨b, o + off, none⟩)) w := by
 unfold fieldIs at hf;split at hf
 · rename_i fs hu
   split at hf
   · rename_i x hx
     simp only [Bool.and_eq_true] at hf;obtain ⟨h1, h2⟩ := hf;split at h2
     · rename_i i hi
       unfold Instr.fieldAt;rw [Sem.run_bind, run_underlying hu, Result.andThen_ok];simp only [hx, Instr.sureAddr];simp only [pure, bind, Sem.bind];unfold fieldPlace;have hsz : i.size ≠ 0 := by have := Nat.blt_eq.mp h2; omega
       have hs : (sizeOf x.type).run P w = .ok i.size w := run_sizeOf (by simp [sizeIs, hi]) w;have hrb := @Sem.run_bind;show Sem.run P (Sem.bind (Sem.bind (sizeOf x.type) _) _) w = _;have e1 : ∀ (α β : Type) (m : Sem α) (k : α → Sem β), Sem.bind m k = (m >>= k) := fun _ _ _ _ => rfl
       simp only [e1, Sem.run_bind, hs, Result.andThen_ok, if_neg hsz];simp only [pure, Sem.run, Result.andThen_ok, addr_add, Nat.eq_of_beq_eq_true h1]
     · cases h2
   · cases hf
 · cases hf
theorem qf {t f off : Nat} {p : Value} {l : List Value} (hf : fieldIs P t f off = true) (ha : At h p l) (hk : ∀ q, At h q (l.drop off) → KR q) : DoR P c (Instr.fieldAt t p f) h L KR := by
 obtain ⟨b, o, ob, rfl, hb, hc⟩ := ha;exact doR_pure (run_fieldPlace hf) (hk _ ⟨b, o + off, ob, rfl, hb, hc.drop⟩)
theorem qw {t f off b o : Nat} (hf : fieldIs P t f off = true) (hk : KR (.pointer (some ⟨b, o + off, none⟩))) : DoR P c (Instr.fieldAt t (.pointer (some ⟨b, o, none⟩)) f) h L KR :=
 doR_pure (run_fieldPlace hf) hk
theorem St.alloc {w : World} (s : St c h L w) (o : Obj) : St c h ((w.heap.size, o) :: L) { w with heap := w.heap.push o } := by
 have hlt : ∀ {b : Nat} {p : Obj}, w.heap[b]? = some p → b < w.heap.size := fun {b p} e => by
  rcases Nat.lt_or_ge b w.heap.size with h | h
  · exact h
  · rw [Array.getElem?_eq_none h] at e; cases e
 have hold : ∀ {b : Nat} {p : Obj}, w.heap[b]? = some p → (w.heap.push o)[b]? = some p := fun {b p} e => by
  rw [Array.getElem?_push, if_neg (by have := hlt e; omega)]; exact e
 refine ⟨s.os, s.tape, s.output, fun b p e => hold (s.gh b p e), ?_, ?_, ?_, s.dr⟩
 · intro b p hm
   rcases List.mem_cons.1 hm with e | hm
   · cases e; simp
   · exact hold (s.own b p hm)
 · intro b p hm
   rcases List.mem_cons.1 hm with e | hm
   · cases e
     cases hh : h w.heap.size with
     | none => rfl
     | some q => have := hlt (s.gh _ _ hh); omega
   · exact s.sep b p hm
 · simp only [List.map_cons, List.nodup_cons]
   refine ⟨fun hm => ?_, s.nd⟩;obtain ⟨⟨b, p⟩, hm, e⟩ := List.mem_map.1 hm;have := hlt (s.own b p hm);simp only at e; omega
theorem doV_new {m : Sem Value} {o : Obj} {f : Nat → Value} (hr : ∀ w, m.run P w = .ok (f w.heap.size) { w with heap := w.heap.push o }) (hk : ∀ b, K (f b) h ((b, o) :: L)) : DoV P c m h L K :=
 ⟨fun w s => ⟨_, _, h, _, hr w, GH.le_refl h, s.alloc o, hk _⟩⟩
theorem newVar_run {t : TypeId} {v : Value} (w : World) : (newVar t v).run P w = .ok ⟨w.heap.size, 0, none⟩ { w with heap := w.heap.push (.cells v.cells t) } := rfl
theorem run_box (t : TypeId) (v : Value) (w : World) : (Instr.box t v).run P w = .ok (.pointer (some ⟨w.heap.size, 0, none⟩)) { w with heap := w.heap.push (.cells v.cells t) } := by
 unfold Instr.box;rw [Sem.run_bind, newVar_run]; rfl
theorem box_own {t : TypeId} {v : Value} {l : List Value} (hl : v.cells = l.toArray) (hk : ∀ b, K (.pointer (some ⟨b, 0, none⟩)) h ((b, .cells l.toArray t (0, 0)) :: L)) : DoV P c (Instr.box t v) h L K := by
 refine doV_new (f := fun b => .pointer (some ⟨b, 0, none⟩)) (run_box t v) ?_;rw [hl]; exact hk
theorem box_at {t : TypeId} {v : Value} {l : List Value} (hl : v.cells = l.toArray) (hk : ∀ p h', GH.le h h' → At h' p l → K p h' L) : DoV P c (Instr.box t v) h L K :=
 ⟨fun w s => by
  have s1 := s.alloc (.cells l.toArray t (0, 0));have s2 := Ghost.freeze h L w.heap.size (.cells l.toArray t (0, 0)) c _ s1;refine ⟨_, _, _, L, run_box t v w, GH.le_ins s1.free, by rw [hl]; exact s2, hk _ _ (GH.le_ins s1.free) ⟨w.heap.size, 0, _, rfl, GH.ins_same _ _ _, CellsAt.all l t (0, 0)⟩⟩⟩
end
end Go.Brd
namespace Go.Brd
def oneCell : Value → Bool
 | .agg _ => false
 | .tuple _ => false
 | _ => true
structure Sl (h : GH) (v : Value) (sz : Nat) (ls : List (List Value)) : Prop where
 sizes : ∀ l ∈ ls, l.length = sz
 ones : ∀ l ∈ ls, l.all oneCell = true
 small : ls.length < 2 ^ 62
 is : ∃ a cap, v = .slice a ls.length cap ∧ ls.length ≤ cap ∧ cap < 2 ^ 63 ∧ (ls = [] ∨ ∃ b off o, a = some ⟨b, off, none⟩ ∧ h b = some o ∧ CellsAt o off ls.flatten)
theorem Sl.mono {h h' : GH} {v : Value} {sz : Nat} {ls : List (List Value)} (hle : GH.le h h') (s : Sl h v sz ls) : Sl h' v sz ls :=
 ⟨s.sizes, s.ones, s.small, let ⟨a, cap, e, hc, hc2, r⟩ := s.is; ⟨a, cap, e, hc, hc2, r.imp id fun ⟨b, off, o, ea, hb, hcells⟩ => ⟨b, off, o, ea, hle b o hb, hcells⟩⟩⟩
theorem flatten_length {sz : Nat} : ∀ {ls : List (List Value)}, (∀ l ∈ ls, l.length = sz) → ls.flatten.length = ls.length * sz
 | [], _ => by simp
 | l :: r, h => by
  simp only [List.flatten_cons, List.length_append, List.length_cons];rw [h l (by simp), flatten_length (ls := r) (fun x hx => h x (by simp [hx])), Nat.add_mul]; omega
theorem flatten_drop {sz : Nat} : ∀ {ls : List (List Value)} (k : Nat), (∀ l ∈ ls, l.length = sz) → ls.flatten.drop (k * sz) = (ls.drop k).flatten
 | ls, 0, _ => by simp
 | [], k + 1, _ => by simp
 | l :: r, k + 1, h => by
  simp only [List.flatten_cons, List.drop_succ_cons];rw [← flatten_drop k (fun x hx => h x (by simp [hx])), Nat.add_mul, Nat.one_mul, List.drop_append, h l (by simp)];have : (l.drop (k * sz + sz)) = [] := List.drop_eq_nil_of_le (by rw [h l (by simp)]; omega);rw [this, List.nil_append];congr 1; omega
theorem flatten_take {sz : Nat} : ∀ {ls : List (List Value)} (k : Nat), (∀ l ∈ ls, l.length = sz) → ls.flatten.take (k * sz) = (ls.take k).flatten
 | ls, 0, _ => by simp
 | [], k + 1, _ => by simp
 | l :: r, k + 1, h => by
  simp only [List.flatten_cons, List.take_succ_cons];rw [← flatten_take k (fun x hx => h x (by simp [hx])), Nat.add_mul, Nat.one_mul, List.take_append, h l (by simp)];have : (l.take (k * sz + sz)) = l := List.take_of_length_le (by rw [h l (by simp)]; omega);rw [this];congr 2; omega
theorem flatten_at {sz : Nat} {ls : List (List Value)} {k : Nat} {l : List Value} (h : ∀ l ∈ ls, l.length = sz) (hk : ls[k]? = some l) : ∃ r, ls.flatten.drop (k * sz) = l ++ r := by
 rw [flatten_drop k h];obtain ⟨hlt, e⟩ := List.getElem?_eq_some_iff.1 hk;rw [List.drop_eq_getElem_cons hlt, e];exact ⟨_, rfl⟩
section
variable {P : Program} {c : World} {h : GH} {L : Own} {K : Kont} {KR : Value → Prop}
theorem sliceOf_parts {t e n : Nat} (hs : sliceOf P t e n = true) : P.underlying t = some (.slice e) ∧ sizeIs P e n = true ∧ 0 < n := by
 unfold sliceOf at hs;simp only [Bool.and_eq_true] at hs;obtain ⟨⟨h1, h2⟩, h3⟩ := hs;split at h1
 · rename_i x hu; exact ⟨by rw [hu, Nat.eq_of_beq_eq_true h1], h2, Nat.blt_eq.mp h3⟩
 · cases h1
theorem arrayOf_parts {t k e n : Nat} (hs : arrayOf P t k e n = true) : P.underlying t = some (.array k e) ∧ sizeIs P e n = true := by
 unfold arrayOf at hs;simp only [Bool.and_eq_true] at hs;obtain ⟨h1, h2⟩ := hs;split at h1
 · rename_i x y hu
   simp only [Bool.and_eq_true] at h1;exact ⟨by rw [hu, Nat.eq_of_beq_eq_true h1.1, Nat.eq_of_beq_eq_true h1.2], h2⟩
 · cases h1
theorem run_indexSlice {t e n : Nat} (ht : sliceOf P t e n = true) {b off len cap k : Nat} {ik : IntKind} {i : Int} (hi : (k : Int) = i) (hk : k < len) (w : World) :
 (Instr.indexAt t (.slice (some ⟨b, off, none⟩) len cap) (.int ik i)).run P w = .ok (.pointer (some ⟨b, off + k * n, none⟩)) w := by
 obtain ⟨hu, hn, hpos⟩ := sliceOf_parts ht;subst hi;unfold Instr.indexAt;simp only [asIntOf];have e1 : ∀ (α β : Type) (m : Sem α) (f : α → Sem β), Sem.bind m f = (m >>= f) := fun _ _ _ _ => rfl
 simp only [Sem.run_bind, pure, Sem.run, Result.andThen_ok, run_underlying hu];rw [if_pos ⟨by omega, by omega⟩];simp only [e1, Sem.run_bind, run_sizeOf hn, Result.andThen_ok, Sem.run, addr_add];simp
theorem index_at {t e n : Nat} {v : Value} {ls : List (List Value)} {l : List Value} {k : Nat} {ik : IntKind} {i : Int} (ht : sliceOf P t e n = true) (hs : Sl h v n ls) (hi : (k : Int) = i) (hl : ls[k]? = some l)
 (hk : ∀ p r, At h p (l ++ r) → KR p) : DoR P c (Instr.indexAt t v (.int ik i)) h L KR := by
 obtain ⟨a, cap, rfl, hc, hc2, hr⟩ := hs.is;have hlt : k < ls.length := (List.getElem?_eq_some_iff.1 hl).1;rcases hr with rfl | ⟨b, off, o, rfl, hb, hcells⟩
 · simp at hlt
 · obtain ⟨r, hr⟩ := flatten_at hs.sizes hl
   refine doR_pure (run_indexSlice ht hi hlt) (hk _ r ⟨b, off + k * n, o, rfl, hb, ?_⟩);rw [← hr]; exact hcells.drop
theorem index_own {t e n : Nat} {b off len cap k : Nat} {ik : IntKind} {i : Int} (ht : sliceOf P t e n = true) (hi : (k : Int) = i) (hk : k < len) (hK : KR (.pointer (some ⟨b, off + k * n, none⟩))) :
 DoR P c (Instr.indexAt t (.slice (some ⟨b, off, none⟩) len cap) (.int ik i)) h L KR := doR_pure (run_indexSlice ht hi hk) hK
theorem run_indexArray {t m e n : Nat} (ht : arrayOf P t m e n = true) {b off k : Nat} {ik : IntKind} {i : Int} (hi : (k : Int) = i) (hk : k < m) (w : World) :
 (Instr.indexAt t (.pointer (some ⟨b, off, none⟩)) (.int ik i)).run P w = .ok (.pointer (some ⟨b, off + k * n, none⟩)) w := by
 obtain ⟨hu, hn⟩ := arrayOf_parts ht;subst hi;unfold Instr.indexAt;simp only [asIntOf, Instr.sureAddr];have e1 : ∀ (α β : Type) (m : Sem α) (f : α → Sem β), Sem.bind m f = (m >>= f) := fun _ _ _ _ => rfl
 simp only [Sem.run_bind, pure, Sem.run, Result.andThen_ok, run_underlying hu, e1];rw [if_pos ⟨by omega, by omega⟩];simp only [e1, Sem.run_bind, run_sizeOf hn, Result.andThen_ok, Sem.run, addr_add];simp
theorem indexArr_at {t m e n : Nat} {p : Value} {l : List Value} {k : Nat} {ik : IntKind} {i : Int} (ht : arrayOf P t m e n = true) (ha : At h p l) (hi : (k : Int) = i) (hk : k < m) (hK : ∀ q, At h q (l.drop (k * n)) → KR q) :
 DoR P c (Instr.indexAt t p (.int ik i)) h L KR := by
 obtain ⟨b, off, o, rfl, hb, hc⟩ := ha;exact doR_pure (run_indexArray ht hi hk) (hK _ ⟨b, off + k * n, o, rfl, hb, hc.drop⟩)
theorem indexArr_own {t m e n : Nat} {b off k : Nat} {ik : IntKind} {i : Int} (ht : arrayOf P t m e n = true) (hi : (k : Int) = i) (hk : k < m) (hK : KR (.pointer (some ⟨b, off + k * n, none⟩))) :
 DoR P c (Instr.indexAt t (.pointer (some ⟨b, off, none⟩)) (.int ik i)) h L KR := doR_pure (run_indexArray ht hi hk) hK
theorem len_run {t e n : Nat} {ty : TypeId} {a : Option Addr} {len cap : Nat} (ht : sliceOf P t e n = true) (w : World) : (Builtin.len_ #[t] ty #[.slice a len cap]).run P w = .ok (.int .i64 len) w := by
 obtain ⟨hu, _, _⟩ := sliceOf_parts ht;unfold Builtin.len_;simp only [List.getElem?_toArray, List.getElem?_cons_zero];rw [Sem.run_bind, run_underlying hu]; rfl
theorem len_sl {t e n : Nat} {ty : TypeId} {v : Value} {sz : Nat} {ls : List (List Value)} (ht : sliceOf P t e n = true) (hs : Sl h v sz ls) (hk : KR (.int .i64 (ls.length : Nat))) : DoR P c (Builtin.len_ #[t] ty #[v]) h L KR := by
 obtain ⟨a, cap, rfl, _⟩ := hs.is;exact doR_pure (len_run ht) hk
theorem len_slice {t e n : Nat} {ty : TypeId} {a : Option Addr} {len cap : Nat} (ht : sliceOf P t e n = true) (hk : KR (.int .i64 (len : Nat))) : DoR P c (Builtin.len_ #[t] ty #[.slice a len cap]) h L KR := doR_pure (len_run ht) hk
theorem len_str {t : Nat} {ty : TypeId} {s : ByteArray} (ht : P.underlying t = some .string) (hk : KR (.int .i64 (s.size : Nat))) : DoR P c (Builtin.len_ #[t] ty #[.string s]) h L KR := by
 refine doR_pure (fun w => ?_) hk;unfold Builtin.len_;simp only [List.getElem?_toArray, List.getElem?_cons_zero];rw [Sem.run_bind, run_underlying ht]; rfl
theorem len_arr {t m e n : Nat} {ty : TypeId} {v : Value} (ht : arrayOf P t m e n = true) (hk : KR (.int .i64 (m : Nat))) : DoR P c (Builtin.len_ #[t] ty #[v]) h L KR := by
 refine doR_pure (fun w => ?_) hk;unfold Builtin.len_;simp only [List.getElem?_toArray, List.getElem?_cons_zero];rw [Sem.run_bind, run_underlying (arrayOf_parts ht).1]; rfl
def InI64 (n : Int) : Prop := -9223372036854775808 ≤ n ∧ n ≤ 9223372036854775807
theorem wrap_i64 {n : Int} (hn : InI64 n) : IntKind.i64.wrap n = n := by
 obtain ⟨h1, h2⟩ := hn;unfold IntKind.wrap;simp only [IntKind.signed, IntKind.bits];simp;omega
theorem eqG_int (op : BinOp) (t : TypeId) (x y : Operand) (k k' : IntKind) (a b : Int) (w : World) : (eqG op t x y (.int k a) (.int k' b)).run P w = (binOp op t (.int k a) (.int k' b)).run P w := by
 unfold eqG;rw [Sem.run_bind]
 have : (eqGuard op t x y (.int k a) (.int k' b)).run P w = .ok () w := by
  unfold eqGuard; cases op <;> rfl
 rw [this]; rfl
theorem qA {t : TypeId} {x y : Operand} {a b : Int} (hn : InI64 (a + b)) (hk : KR (.int .i64 (a + b))) : DoR P c (eqG .add t x y (.int .i64 a) (.int .i64 b)) h L KR :=
 doR_pure (fun w => by rw [eqG_int]; show Result.ok (Value.int .i64 (IntKind.i64.wrap (a + b))) w = _; rw [wrap_i64 hn]) hk
theorem sub_i64 {t : TypeId} {x y : Operand} {a b : Int} (hn : InI64 (a - b)) (hk : KR (.int .i64 (a - b))) : DoR P c (eqG .sub t x y (.int .i64 a) (.int .i64 b)) h L KR :=
 doR_pure (fun w => by rw [eqG_int]; show Result.ok (Value.int .i64 (IntKind.i64.wrap (a - b))) w = _; rw [wrap_i64 hn]) hk
theorem mul_i64 {t : TypeId} {x y : Operand} {a b : Int} (hn : InI64 (a * b)) (hk : KR (.int .i64 (a * b))) : DoR P c (eqG .mul t x y (.int .i64 a) (.int .i64 b)) h L KR :=
 doR_pure (fun w => by rw [eqG_int]; show Result.ok (Value.int .i64 (IntKind.i64.wrap (a * b))) w = _; rw [wrap_i64 hn]) hk
theorem lss_int {t : TypeId} {x y : Operand} {k : IntKind} {a b : Int} (hk : KR (.bool (decide (a < b)))) : DoR P c (eqG .lss t x y (.int k a) (.int k b)) h L KR :=
 doR_pure (fun w => by rw [eqG_int]; unfold binOp; simp [Op.intCmp, Sem.run, pure]) hk
theorem leq_int {t : TypeId} {x y : Operand} {k : IntKind} {a b : Int} (hk : KR (.bool (decide (a ≤ b)))) : DoR P c (eqG .leq t x y (.int k a) (.int k b)) h L KR :=
 doR_pure (fun w => by rw [eqG_int]; unfold binOp; simp [Op.intCmp, Sem.run, pure]) hk
theorem gtr_int {t : TypeId} {x y : Operand} {k : IntKind} {a b : Int} (hk : KR (.bool (decide (b < a)))) : DoR P c (eqG .gtr t x y (.int k a) (.int k b)) h L KR :=
 doR_pure (fun w => by rw [eqG_int]; unfold binOp; simp [Op.intCmp, Sem.run, pure]) hk
theorem geq_int {t : TypeId} {x y : Operand} {k : IntKind} {a b : Int} (hk : KR (.bool (decide (b ≤ a)))) : DoR P c (eqG .geq t x y (.int k a) (.int k b)) h L KR :=
 doR_pure (fun w => by rw [eqG_int]; unfold binOp; simp [Op.intCmp, Sem.run, pure]) hk
theorem eql_int {t : TypeId} {x y : Operand} {k : IntKind} {a b : Int} (hk : KR (.bool (decide (a = b)))) : DoR P c (eqG .eql t x y (.int k a) (.int k b)) h L KR :=
 doR_pure (v := .bool (decide (a = b))) (fun w => by rw [eqG_int]; unfold binOp; simp [Op.intCmp, Sem.run, pure]; rfl) hk
theorem neq_int {t : TypeId} {x y : Operand} {k : IntKind} {a b : Int} (hk : KR (.bool (!decide (a = b)))) : DoR P c (eqG .neq t x y (.int k a) (.int k b)) h L KR :=
 doR_pure (v := .bool (!decide (a = b))) (fun w => by rw [eqG_int]; unfold binOp; simp [Op.intCmp, Sem.run, pure]; rfl) hk
theorem not_bool {b : Bool} (hk : KR (.bool (!b))) : DoR P c (Op.unary .not (.bool b)) h L KR := doR_pure (fun _ => rfl) hk
theorem run_store_cell {w : World} {b off : Nat} {l : List Value} {E : TypeId} {fr : Nat × Nat} {v : Value} (hw : w.heap[b]? = some (.cells l.toArray E fr)) (hoff : off < l.length) (hfr : ¬ (fr.1 ≤ off ∧ off < fr.2))
 (hv : ∀ cs, v ≠ .agg cs) (hv2 : ∀ cs, v ≠ .tuple cs) : (store ⟨b, off, none⟩ v).run P w = .ok () (w.setCell ⟨b, off, none⟩ v) := by
 unfold store
 have hcell : w.cell? ⟨b, off, none⟩ = some l[off] := by
  unfold World.cell?; simp [hw, hoff]
 have hfz : w.frozen? ⟨b, off, none⟩ = false := by
  unfold World.frozen?; simp only [hw]; simpa using hfr
 cases v with
 | agg cs => exact (hv cs rfl).elim
 | tuple cs => exact (hv2 cs rfl).elim
 | _ => simp [Sem.run, hcell, hfz]
theorem setCell_heap {w : World} {b off : Nat} {l : List Value} {E : TypeId} {fr : Nat × Nat} {v : Value} (hw : w.heap[b]? = some (.cells l.toArray E fr)) :
 (w.setCell ⟨b, off, none⟩ v).heap[b]? = some (.cells (l.set off v).toArray E fr) := by
 unfold World.setCell;simp only [Array.getElem?_modify, if_pos rfl, hw, Option.map_some, Option.isSome_none, Bool.false_eq_true, if_false];simp
theorem St.setCell {b off : Nat} {l : List Value} {E : TypeId} {fr : Nat × Nat} {v : Value} {w : World} (s : St c h ((b, .cells l.toArray E fr) :: L) w) : St c h ((b, .cells (l.set off v).toArray E fr) :: L) (w.setCell ⟨b, off, none⟩ v) := by
 have hb := s.own b _ (List.mem_cons_self ..)
 have hne : ∀ x, x ≠ b → (w.setCell ⟨b, off, none⟩ v).heap[x]? = w.heap[x]? := fun x hx => by
  unfold World.setCell;simp only [Array.getElem?_modify, if_neg (Ne.symm hx)]
 refine ⟨s.os, s.tape, s.output, fun x o e => ?_, fun x o hm => ?_, fun x o hm => ?_, s.nd, ?_⟩
 · have : x ≠ b := fun e2 => by subst e2; rw [s.free] at e; cases e
   rw [hne x this]; exact s.gh x o e
 · rcases List.mem_cons.1 hm with e | hm
   · cases e; exact setCell_heap hb
   · have : x ≠ b := fun e2 => by
      have hnd := s.nd; simp only [List.map_cons, List.nodup_cons] at hnd;exact hnd.1 (List.mem_map.2 ⟨(x, o), hm, e2⟩)
     rw [hne x this]; exact s.own x o (List.mem_cons_of_mem _ hm)
 · rcases List.mem_cons.1 hm with e | hm
   · cases e; exact s.free
   · exact s.sep x o (List.mem_cons_of_mem _ hm)
 · exact s.dr
def over (l : List Value) (off : Nat) : List Value → List Value
 | [] => l
 | v :: r => over (l.set off v) (off + 1) r
theorem over_length (l : List Value) (off : Nat) (r : List Value) : (over l off r).length = l.length := by
 induction r generalizing l off with
 | nil => rfl
 | cons v r ih => simp [over, ih]
theorem run_storeCells {b : Nat} {E : TypeId} {fr : Nat × Nat} (off0 : Nat) : ∀ (r : List Value) (i : Nat) (l : List Value) (w : World), St c h ((b, .cells l.toArray E fr) :: L) w → off0 + i + r.length ≤ l.length → (∀ j, off0 + i ≤ j → j < off0 + i + r.length → ¬ (fr.1 ≤ j ∧ j < fr.2)) → (∀ v ∈ r, oneCell v = true) →
 ∃ w', (storeCells ⟨b, off0, none⟩ r i).run P w = .ok () w' ∧ St c h ((b, .cells (over l (off0 + i) r).toArray E fr) :: L) w'
 | [], i, l, w, s, _, _, _ => ⟨w, rfl, s⟩
 | v :: r, i, l, w, s, hlen, hfr, hv => by
  simp only [List.length_cons] at hlen hfr;have h1 : ∀ cs, v ≠ .agg cs := fun cs e => by have := hv v (by simp); rw [e] at this; cases this
  have h2 : ∀ cs, v ≠ .tuple cs := fun cs e => by have := hv v (by simp); rw [e] at this; cases this
  have s' := s.setCell (off := off0 + i) (v := v);obtain ⟨w', hr, s2⟩ := run_storeCells off0 r (i + 1) (l.set (off0 + i) v) _ s' (by simp; omega) (fun j hj hj2 => hfr j (by omega) (by omega)) (fun x hx => hv x (by simp [hx]));refine ⟨w', ?_, s2⟩;unfold storeCells;rw [Sem.run_bind, addr_add, run_store_cell (s.own b _ (List.mem_cons_self ..)) (by omega) (hfr (off0 + i) (by omega) (by omega)) h1 h2, Result.andThen_ok];exact hr
theorem store_own {t n b off : Nat} {l : List Value} {E : TypeId} {fr : Nat × Nat} {v : Value} {r : List Value} {M : Own} (ht : sizeIs P t n = true) (hv : v.cells = r.toArray) (hn : r.length = n) (hL : L.Perm ((b, .cells l.toArray E fr) :: M)) (hlen : off + n ≤ l.length)
 (hfr : fr = (0, 0) ∨ l.length ≤ fr.1) (hone : r.all oneCell = true) (hk : K undef h ((b, .cells (over l off r).toArray E fr) :: M)) : DoU P c (Instr.storeAt t (.pointer (some ⟨b, off, none⟩)) v) h L K := by
 refine ⟨fun w s => ?_⟩;have s1 := Ghost.perm (h := h) hL c w s
 obtain ⟨w', hr, s2⟩ := run_storeCells (P := P) off r 0 l w s1 (by omega) (fun j hj hj2 hh => by
  rcases hfr with e | e
  · subst e; simp at hh
  · omega) (fun x hx => List.all_eq_true.1 hone x hx)
 refine ⟨w', h, _, ?_, GH.le_refl h, s2, hk⟩;unfold Instr.storeAt;show Sem.run P (storeVar t ⟨b, off, none⟩ v) w = _;unfold storeVar;have hsz : v.cells.size = n := by rw [hv]; simpa using hn
 rw [Sem.run_bind, run_sizeOf ht, Result.andThen_ok];simp only [hsz, ne_eq, not_true_eq_false, if_false];rw [hv];exact hr
end
end Go.Brd
namespace Go.Brd
structure OS (E sz : Nat) (v : Value) (ls : List (List Value)) (N : Own) : Prop where
 sizes : ∀ l ∈ ls, l.length = sz
 ones : ∀ l ∈ ls, l.all oneCell = true
 is : (v = .slice none 0 0 ∧ ls = [] ∧ N = []) ∨
  ∃ b rest cap, v = .slice (some ⟨b, 0, none⟩) ls.length cap ∧ N = [(b, .cells (ls.flatten ++ rest).toArray E (0, 0))] ∧ cap * sz = ls.length * sz + rest.length ∧ ls.length ≤ cap ∧ cap < 2 ^ 63
theorem OS.nil (E sz : Nat) : OS E sz (.slice none 0 0) [] [] := ⟨by simp, by simp, .inl ⟨rfl, rfl, rfl⟩⟩
theorem OS.open {E sz : Nat} {v : Value} {ls : List (List Value)} {N : Own} (s : OS E sz v ls N) (hne : 0 < ls.length) :
 ∃ b rest cap, v = .slice (some ⟨b, 0, none⟩) ls.length cap ∧ N = [(b, .cells (ls.flatten ++ rest).toArray E (0, 0))] ∧ cap * sz = ls.length * sz + rest.length ∧ ls.length ≤ cap ∧ cap < 2 ^ 63 := by
 rcases s.is with ⟨_, rfl, _⟩ | h
 · simp at hne
 · exact h
theorem OS.freeze {E sz : Nat} {v : Value} {ls : List (List Value)} {N L : Own} {h : GH} (s : OS E sz v ls N) (hsm : ls.length < 2 ^ 62) : ∃ h', (∀ c w, St c h (N ++ L) w → St c h' L w ∧ GH.le h h' ∧ Sl h' v sz ls) := by
 rcases s.is with ⟨rfl, rfl, rfl⟩ | ⟨b, rest, cap, rfl, rfl, hc, hle, hc2⟩
 · exact ⟨h, fun c w st => ⟨st, GH.le_refl h, ⟨s.sizes, s.ones, hsm, none, 0, rfl, Nat.le_refl _, by omega, .inl rfl⟩⟩⟩
 · refine ⟨h.ins b (.cells (ls.flatten ++ rest).toArray E (0, 0)), fun c w st => ⟨Ghost.freeze h L b _ c w st, GH.le_ins (St.free st), ⟨s.sizes, s.ones, hsm, some ⟨b, 0, none⟩, cap, rfl, hle, hc2, .inr ⟨b, 0, _, rfl, GH.ins_same _ _ _, ?_⟩⟩⟩⟩
   refine ⟨_, E, (0, 0), rfl, fun j hj => ?_⟩;simp only [Nat.zero_add, List.getElem?_toArray];rw [List.getElem?_append_left hj, List.getElem?_eq_getElem hj]
structure Froze (h : GH) (N L : Own) (h' : GH) : Prop where
 st : ∀ c w, St c h (N ++ L) w → St c h' L w
theorem DoV.freeze {P : Program} {c : World} {m : Sem Value} {E sz : Nat} {v : Value} {ls : List (List Value)} {N M L : Own} {h : GH} {K : Kont} (s : OS E sz v ls N) (hsm : ls.length < 2 ^ 62) (hL : L.Perm (N ++ M))
 (hk : ∀ h', GH.le h h' → Sl h' v sz ls → DoV P c m h' M K) : DoV P c m h L K := by
 obtain ⟨h', hf⟩ := s.freeze (L := M) (h := h) hsm;refine ⟨fun w st => ?_⟩;obtain ⟨st', hle, hsl⟩ := hf c w (Ghost.perm hL c w st);obtain ⟨u, w', h2, L2, hr, hle2, hs2, hk2⟩ := (hk h' hle hsl).run w st';exact ⟨u, w', h2, L2, hr, GH.le_trans hle hle2, hs2, hk2⟩
theorem DoRet.freeze {P : Program} {c : World} {rs : List ResultVar} {fr : Fr} {E sz : Nat} {v : Value} {ls : List (List Value)} {N M L : Own} {h : GH} {K : Kont} (s : OS E sz v ls N) (hsm : ls.length < 2 ^ 62) (hL : L.Perm (N ++ M))
 (hk : ∀ h', GH.le h h' → Sl h' v sz ls → DoRet rs fr h' M P c K) : DoRet rs fr h L P c K := by
 obtain ⟨h', hf⟩ := s.freeze (L := M) (h := h) hsm;refine ⟨fun tmps w fn hr ht st => ?_⟩;obtain ⟨st', hle, hsl⟩ := hf c w (Ghost.perm hL c w st);obtain ⟨u, h2, L2, hr2, hle2, hs2, hk2⟩ := (hk h' hle hsl).run tmps w fn hr ht st';exact ⟨u, h2, L2, hr2, GH.le_trans hle hle2, hs2, hk2⟩
theorem over_append (a b l c : List Value) (h : b.length = l.length) : over (a ++ (b ++ c)) a.length l = a ++ (l ++ c) := by
 induction l generalizing a b with
 | nil =>
  have : b = [] := List.length_eq_zero_iff.1 h;subst this; simp [over]
 | cons v r ih =>
  cases b with
  | nil => simp at h
  | cons x b =>
   simp only [over, List.cons_append]
   have h1 : (a ++ (x :: (b ++ c))).set a.length v = (a ++ [v]) ++ (b ++ c) := by
    rw [List.set_append_right _ _ (Nat.le_refl _)]; simp
   rw [h1];have := ih (a ++ [v]) b (by simpa using h);simp only [List.length_append, List.length_cons, List.length_nil, Nat.zero_add] at this;rw [this]; simp
theorem over_flatten {sz : Nat} {ls : List (List Value)} {rest r : List Value} {k : Nat} (hs : ∀ l ∈ ls, l.length = sz) (hk : k < ls.length) (hr : r.length = sz) : over (ls.flatten ++ rest) (k * sz) r = (ls.set k r).flatten ++ rest := by
 have h1 : ls = ls.take k ++ (ls[k] :: ls.drop (k + 1)) := by simp
 have hlen : (ls.take k).flatten.length = k * sz := by
  rw [flatten_length (sz := sz) (fun l hl => hs l (List.mem_of_mem_take hl)), List.length_take, Nat.min_eq_left (by omega)]
 have h2 : ls.flatten ++ rest = (ls.take k).flatten ++ (ls[k] ++ ((ls.drop (k + 1)).flatten ++ rest)) := calc
  ls.flatten ++ rest = (ls.take k ++ (ls[k] :: ls.drop (k + 1))).flatten ++ rest := by rw [← h1]
  _ = _ := by rw [List.flatten_append, List.flatten_cons]; simp only [List.append_assoc]
 rw [h2, ← hlen, over_append _ _ _ _ (by rw [hs _ (List.getElem_mem hk), hr])];rw [List.set_eq_take_append_cons_drop, if_pos hk];simp [List.flatten_append]
section
variable {P : Program} {c : World} {h : GH} {L : Own} {K : Kont}
def zeroIs (P : Program) (t n : Nat) : Bool := match P.info? t with
 | some i => (match i.zero with
  | some z => Nat.beq z.cells.size n
  | none => false) && Nat.ble i.bytes 65536 && Nat.blt 0 i.bytes
 | none => false
theorem zeroIs_parts {t n : Nat} (hz : zeroIs P t n = true) : ∃ i z, P.info? t = some i ∧ i.zero = some z ∧ z.cells.size = n ∧ i.bytes ≤ 65536 ∧ 0 < i.bytes := by
 unfold zeroIs at hz;split at hz
 · rename_i i hi
   simp only [Bool.and_eq_true] at hz;obtain ⟨⟨h1, h2⟩, h3⟩ := hz;split at h1
   · rename_i z hzz; exact ⟨i, z, hi, hzz, Nat.eq_of_beq_eq_true h1, Nat.le_of_ble_eq_true h2, Nat.blt_eq.mp h3⟩
   · cases h1
 · cases hz
theorem run_firstCells_sl {v : Value} {sz : Nat} {ls : List (List Value)} (hs : Sl h v sz ls) {w : World} (s : St c h L w) : (Builtin.firstCells sz ls.length v).run P w = .ok ls.flatten.toArray w := by
 obtain ⟨a, cap, rfl, hc, _, hr⟩ := hs.is;rcases hr with rfl | ⟨b, off, o, rfl, hb, hcells⟩
 · cases a with
   | none => rfl
   | some a => simp [Builtin.firstCells, loadCells, loadCellsFrom, pure, Sem.run]
 · have := run_loadCellsFrom (P := P) (w := w) (b := b) (off := off) ls.flatten.length 0 #[] ls.flatten (fun j hj => by
    have := hcells.cell (s.gh b o hb) hj; simpa using this) rfl
   rw [flatten_length hs.sizes] at this;unfold Builtin.firstCells loadCells
   simpa using this
theorem run_firstCells_own {b cap n sz : Nat} {l rest : List Value} {E : TypeId} {fr : Nat × Nat} {w : World} (hw : w.heap[b]? = some (.cells (l ++ rest).toArray E fr)) (hn : l.length = n * sz) : (Builtin.firstCells sz n (.slice (some ⟨b, 0, none⟩) n cap)).run P w = .ok l.toArray w := by
 have := run_loadCellsFrom (P := P) (w := w) (b := b) (off := 0) l.length 0 #[] l (fun j hj => by
  unfold World.cell?;simp only [hw, Option.isSome_none, Bool.false_eq_true, if_false, Nat.zero_add, List.getElem?_toArray];rw [List.getElem?_append_left hj, List.getElem?_eq_getElem hj]) rfl
 rw [hn] at this;unfold Builtin.firstCells loadCells
 simpa using this
theorem growBy_le (n : Nat) : ∀ (r x : Nat), x ≤ n → Builtin.growBy n r x ≤ 2 * n + 1000
 | 0, x, h => by simp [Builtin.growBy]; omega
 | r + 1, x, h => by
  unfold Builtin.growBy;split
  · omega
  · rcases Nat.lt_or_ge n (x + (x + 768) / 4) with h2 | h2
    · cases r with
      | zero => simp [Builtin.growBy]; omega
      | succ r => unfold Builtin.growBy; rw [if_pos (by omega)]; omega
    · exact growBy_le n r _ h2
theorem nextslicecap_le {n old : Nat} (h : old < n) : Builtin.nextslicecap n old ≤ 2 * n + 1000 := by
 unfold Builtin.nextslicecap;split
 · omega
 · split
   · omega
   · exact growBy_le n 4 old (by omega)
theorem St.draw {w : World} (s : St c h L w) : St c h L { w with drawn := w.drawn + 1 } := ⟨s.os, s.tape, s.output, s.gh, s.own, s.sep, s.nd, Nat.le_succ_of_le s.dr⟩
theorem append_own {t xt e sz : Nat} {ty : TypeId} {v x : Value} {ls xs : List (List Value)} {N M : Own} (ht : sliceOf P t e sz = true) (hxt : sliceOf P xt e sz = true) (hz : zeroIs P e sz = true) (hv : OS e sz v ls N) (hx : Sl h x sz xs) (hL : L.Perm (N ++ M))
 (hn : ls.length + xs.length ≤ 1073741824) (hk : ∀ v' N', OS e sz v' (ls ++ xs) N' → K v' h (N' ++ M)) : DoV P c (Builtin.append_ #[t, xt] ty #[v, x]) h L K := by
 obtain ⟨hu, hsz, hpos⟩ := sliceOf_parts ht;obtain ⟨hux, _, _⟩ := sliceOf_parts hxt;obtain ⟨i, z, hi, hiz, hzn, hb1, hb2⟩ := zeroIs_parts hz
 have hisz : i.size = sz := by
  unfold sizeIs at hsz; rw [hi] at hsz; exact Nat.eq_of_beq_eq_true hsz
 have hsizes : ∀ l ∈ ls ++ xs, l.length = sz := fun l hl => (List.mem_append.1 hl).elim (hv.sizes l) (hx.sizes l)
 have hones : ∀ l ∈ ls ++ xs, l.all oneCell = true := fun l hl => (List.mem_append.1 hl).elim (hv.ones l) (hx.ones l)
 refine ⟨fun w s0 => ?_⟩;have s := Ghost.perm (h := h) hL c w s0;have hlx : xs.flatten.length = xs.length * sz := flatten_length hx.sizes;have hll : ls.flatten.length = ls.length * sz := flatten_length hv.sizes;have e1 : ∀ (α β : Type) (m : Sem α) (f : α → Sem β), Sem.bind m f = (m >>= f) := fun _ _ _ _ => rfl
 obtain ⟨xa, xcap, hxe, hxc, _, hxr⟩ := hx.is
 obtain ⟨base, scap, hve, hcases⟩ : ∃ base scap, v = .slice base ls.length scap ∧ ((base = none ∧ scap = 0 ∧ ls = [] ∧ N = []) ∨ ∃ b rest, base = some ⟨b, 0, none⟩ ∧ N = [(b, .cells (ls.flatten ++ rest).toArray e (0, 0))] ∧ scap * sz = ls.length * sz + rest.length ∧ ls.length ≤ scap ∧ scap < 2 ^ 63) := by
  rcases hv.is with ⟨rfl, rfl, rfl⟩ | ⟨b, rest, cap, rfl, hN, hc, hle, hc2⟩
  · exact ⟨none, 0, rfl, .inl ⟨rfl, rfl, rfl, rfl⟩⟩
  · exact ⟨_, cap, rfl, .inr ⟨b, rest, rfl, hN, hc, hle, hc2⟩⟩
 have hfx : (Builtin.firstCells sz xs.length x).run P w = .ok xs.flatten.toArray w := run_firstCells_sl hx s;have hlen : (Builtin.lenOf x).run P w = .ok xs.length w := by rw [hxe]; rfl
 by_cases hfit : ls.length + xs.length ≤ scap
 ·
  rcases hcases with ⟨rfl, rfl, rfl, rfl⟩ | ⟨b, rest, rfl, rfl, hc, hle, hc2⟩
  · have hxs : xs = [] := List.length_eq_zero_iff.1 (by simpa using hfit)
    subst hxs;refine ⟨.slice none 0 0, w, h, _, ?_, GH.le_refl h, s, hk (.slice none 0 0) [] (by simpa using OS.nil e sz)⟩;subst hve;have hf0 := hfx;simp only [List.length_nil, List.flatten_nil] at hf0 hlen;simp [Builtin.append_, Go.run_underlying hu, Go.run_underlying hux, sizeOf, typeInfo, hi, hisz, hlen, hf0]
  · have hroom : xs.flatten.length ≤ rest.length := by
     rw [hlx];have : (ls.length + xs.length) * sz ≤ scap * sz := Nat.mul_le_mul_right sz hfit;rw [Nat.add_mul] at this; omega
    obtain ⟨w', hr, s2⟩ := run_storeCells (P := P) (ls.length * sz) xs.flatten 0 (ls.flatten ++ rest) w s (by simp only [List.length_append, hll]; omega) (fun j _ _ hh => by simp at hh) (fun u hu => by
     obtain ⟨l, hl, hul⟩ := List.mem_flatten.1 hu;exact List.all_eq_true.1 (hx.ones l hl) u hul)
    have hover : over (ls.flatten ++ rest) (ls.length * sz + 0) xs.flatten = (ls ++ xs).flatten ++ rest.drop xs.flatten.length := by
     have : rest = rest.take xs.flatten.length ++ rest.drop xs.flatten.length := (List.take_append_drop _ _).symm
     conv => lhs; rw [this]
     rw [Nat.add_zero, ← hll, over_append _ _ _ _ (by rw [List.length_take, Nat.min_eq_left hroom])];simp [List.flatten_append]
    rw [hover] at s2;refine ⟨_, w', h, _, ?_, GH.le_refl h, s2, hk (.slice (some ⟨b, 0, none⟩) (ls.length + xs.length) scap) _ ⟨hsizes, hones, .inr ⟨b, _, scap, by simp, rfl, ?_, by simpa using hfit, hc2⟩⟩⟩
    · subst hve
      simp [Builtin.append_, Go.run_underlying hu, Go.run_underlying hux, sizeOf, typeInfo, hi, hisz, hlen, hfx, hfit, addr_add, hr]
    · simp only [List.length_append, List.length_drop, Nat.add_mul, hlx]; omega
 ·
  have hbig : ¬ (((ls.length + xs.length : Nat) : Int) > IntKind.i64.max ∧ (false = true ∨ i.bytes = 0)) := by
   rintro ⟨_, h2 | h2⟩
   · cases h2
   · omega
  have hcap : ¬ (Builtin.nextslicecap (ls.length + xs.length) scap * i.bytes > 2 ^ 48) := by
   have h1 := nextslicecap_le (n := ls.length + xs.length) (old := scap) (by omega);have h2 : Builtin.nextslicecap (ls.length + xs.length) scap * i.bytes ≤ (2 * (ls.length + xs.length) + 1000) * 65536 := Nat.mul_le_mul h1 hb1;have h3 : (2 * (ls.length + xs.length) + 1000) * 65536 ≤ (2 * 1073741824 + 1000) * 65536 := Nat.mul_le_mul_right _ (by omega);have h4 : (2 * 1073741824 + 1000) * 65536 ≤ 2 ^ 48 := by decide
   omega
  let q : Question := .appendCap (ls.length + xs.length) scap e
  obtain ⟨nc, hnc, hn1, hn2⟩ : ∃ nc, nc = q.cut (w.tape w.drawn q) ∧ ls.length + xs.length ≤ nc ∧ nc < 2 ^ 63 := by
   refine ⟨_, rfl, ?_, ?_⟩
   · show _ ≤ _ + _; omega
   · show ls.length + xs.length + w.tape w.drawn q % (2 ^ 63 - (ls.length + xs.length)) < 2 ^ 63
     have : w.tape w.drawn q % (2 ^ 63 - (ls.length + xs.length)) < 2 ^ 63 - (ls.length + xs.length) := Nat.mod_lt _ (by omega);omega
  let w1 : World := { w with drawn := w.drawn + 1 }
  have s1 : St c h (N ++ M) w1 := s.draw;have hfx1 : (Builtin.firstCells sz xs.length x).run P w1 = .ok xs.flatten.toArray w1 := run_firstCells_sl hx s1
  have hfs : (Builtin.firstCells sz ls.length v).run P w1 = .ok ls.flatten.toArray w1 := by
   rcases hcases with ⟨rfl, rfl, rfl, rfl⟩ | ⟨b, rest, rfl, rfl, hc, hle, hc2⟩
   · rw [hve]; rfl
   · rw [hve]; exact run_firstCells_own (rest := rest) (E := e) (fr := (0, 0)) (s1.own b _ (by simp)) hll
  let zs := Builtin.zeroCells z.cells (nc - (ls.length + xs.length))
  have hzs : zs.size = (nc - (ls.length + xs.length)) * sz := by simp [zs, Builtin.zeroCells, hzn]
  have hzero : (zeroValue e).run P w1 = .ok z w1 := by
   unfold zeroValue;rw [Sem.run_bind, run_info hi, Result.andThen_ok];simp only [hiz]; rfl
  have hroom : (askRoom (nc * i.bytes)).run P w1 = .ok () w1 := by
   unfold askRoom; split <;> rfl
  have hcells : ls.flatten.toArray ++ xs.flatten.toArray ++ zs = ((ls ++ xs).flatten ++ zs.toList).toArray := by
   apply Array.toList_inj.1; simp [List.flatten_append]
  have sN : St c h ((w1.heap.size, .cells ((ls ++ xs).flatten ++ zs.toList).toArray e (0, 0)) :: M) { w1 with heap := w1.heap.push (.cells ((ls ++ xs).flatten ++ zs.toList).toArray e) } := by
   have := s1.alloc (.cells ((ls ++ xs).flatten ++ zs.toList).toArray e (0, 0));exact qh (List.Sublist.cons_cons _ (List.sublist_append_right N M)) c _ this
  refine ⟨.slice (some ⟨w1.heap.size, 0, none⟩) (ls.length + xs.length) nc, _, h, _, ?_, GH.le_refl h, sN, hk _ [_] ⟨hsizes, hones, .inr ⟨w1.heap.size, zs.toList, nc, by simp, rfl, ?_, by simpa using hn1, hn2⟩⟩⟩
  · have h63' : ¬ (9223372036854775807 < ((ls.length : Int) + (xs.length : Int))) := by omega
    have h48' : ¬ (281474976710656 < Builtin.nextslicecap (ls.length + xs.length) scap * i.bytes) := by omega
    have hq : (Question.appendCap (ls.length + xs.length) scap e).forced = false := rfl;rw [hve] at hfs ⊢;have hnc' : (Question.appendCap (ls.length + xs.length) scap e).cut (w.tape w.drawn (Question.appendCap (ls.length + xs.length) scap e)) = nc := hnc.symm;have hw1 : ({ w with drawn := w.drawn + 1 } : World) = w1 := rfl;have hdrew : w.drew = w1 := rfl;simp [Builtin.append_, Go.run_underlying hu, Go.run_underlying hux, sizeOf, typeInfo, zeroValue, hi, hisz, hiz, hlen, hfit, h63', h48', hq, hnc', hdrew, hfs, hfx1, hroom, newRow, newObj]
    have hc2 : ls.flatten.toArray ++ (xs.flatten.toArray ++ Builtin.zeroCells z.cells (nc - (ls.length + xs.length))) = (ls.flatten ++ (xs.flatten ++ zs.toList)).toArray := by
     apply Array.toList_inj.1; simp [zs]
    rw [hc2];rfl
  · simp only [List.length_append, Array.length_toList, hzs]
    rw [← Nat.add_mul]; congr 1; omega
end
end Go.Brd
namespace Go.Brd
section
variable {P : Program} {c : World} {h : GH} {L : Own} {K : Kont} {KR : Value → Prop}
theorem lssB {t : TypeId} {x y : Operand} {k : IntKind} {a b : Int} (ht : a < b → KR (.bool true)) (hf : ¬ a < b → KR (.bool false)) : DoR P c (eqG .lss t x y (.int k a) (.int k b)) h L KR := by
 refine lss_int ?_; by_cases hc : a < b
 · simp only [hc, decide_true]; exact ht hc
 · simp only [hc, decide_false]; exact hf hc
theorem leqB {t : TypeId} {x y : Operand} {k : IntKind} {a b : Int} (ht : a ≤ b → KR (.bool true)) (hf : ¬ a ≤ b → KR (.bool false)) : DoR P c (eqG .leq t x y (.int k a) (.int k b)) h L KR := by
 refine leq_int ?_; by_cases hc : a ≤ b
 · simp only [hc, decide_true]; exact ht hc
 · simp only [hc, decide_false]; exact hf hc
theorem gtrB {t : TypeId} {x y : Operand} {k : IntKind} {a b : Int} (ht : b < a → KR (.bool true)) (hf : ¬ b < a → KR (.bool false)) : DoR P c (eqG .gtr t x y (.int k a) (.int k b)) h L KR := by
 refine gtr_int ?_; by_cases hc : b < a
 · simp only [hc, decide_true]; exact ht hc
 · simp only [hc, decide_false]; exact hf hc
theorem geqB {t : TypeId} {x y : Operand} {k : IntKind} {a b : Int} (ht : b ≤ a → KR (.bool true)) (hf : ¬ b ≤ a → KR (.bool false)) : DoR P c (eqG .geq t x y (.int k a) (.int k b)) h L KR := by
 refine geq_int ?_; by_cases hc : b ≤ a
 · simp only [hc, decide_true]; exact ht hc
 · simp only [hc, decide_false]; exact hf hc
theorem eqlB {t : TypeId} {x y : Operand} {k : IntKind} {a b : Int} (ht : a = b → KR (.bool true)) (hf : ¬ a = b → KR (.bool false)) : DoR P c (eqG .eql t x y (.int k a) (.int k b)) h L KR := by
 refine eql_int ?_; by_cases hc : a = b
 · simp only [hc, decide_true]; exact ht hc
 · simp only [hc, decide_false]; exact hf hc
theorem neqB {t : TypeId} {x y : Operand} {k : IntKind} {a b : Int} (ht : ¬ a = b → KR (.bool true)) (hf : a = b → KR (.bool false)) : DoR P c (eqG .neq t x y (.int k a) (.int k b)) h L KR := by
 refine neq_int ?_; by_cases hc : a = b
 · simp only [hc, decide_true, Bool.not_true]; exact hf hc
 · simp only [hc, decide_false, Bool.not_false]; exact ht hc
theorem zeroOne {t : Nat} {i : TypeInfo} {z z0 : Value} (hi : P.info? t = some i) (hz : i.zero = some z) (hc : z.cells = #[z0]) : True := trivial
def zero1 (P : Program) (t : Nat) (z : Value) : Prop := ∃ i, P.info? t = some i ∧ i.zero = some z ∧ z.cells = #[z] ∧ i.size = 1 ∧ i.bytes ≤ 65536
theorem make_own {t e : Nat} {kl kc : IntKind} {l n : Int} {k : Nat} {z : Value} (ht : P.underlying t = some (.slice e)) (hz : zero1 P e z) (hone : oneCell z = true) (hl : (k : Int) = l) (hn : n = l) (hk : k ≤ 1073741824) (hK : ∀ v N, OS e 1 v (List.replicate k [z]) N → K v h (N ++ L)) :
 DoV P c (Instr.makeSlice t (.int kl l) (.int kc n)) h L K := by
 obtain ⟨i, hi, hiz, hzc, hsz, hb⟩ := hz;subst hn; subst hl
 have hbytes : (i.bytes : Int) * (k : Int) ≤ 281474976710656 := by
  have h1 : i.bytes * k ≤ 65536 * 1073741824 := Nat.mul_le_mul hb hk;have h2 : ((i.bytes * k : Nat) : Int) ≤ ((65536 * 1073741824 : Nat) : Int) := by omega
  rw [Int.natCast_mul] at h2; omega
 refine ⟨fun w s => ?_⟩;have hr := run_make (P := P) w t e i z ht hi hiz kl kc k k (by omega) (Int.le_refl _) hbytes (by omega);simp only [hsz, hzc, Nat.mul_one, Int.toNat_natCast] at hr
 have hcells : madeCells #[z] k = ((List.replicate k [z]).flatten ++ []).toArray := by
  apply Array.toList_inj.1;rw [toList_madeCells_one];simp
 rw [hcells] at hr;refine ⟨_, _, h, _, hr, GH.le_refl h, s.alloc _, hK _ [_] ⟨?_, ?_, .inr ⟨w.heap.size, [], k, by simp, rfl, by simp, by simp, by omega⟩⟩⟩
 · intro l hl; rw [List.eq_of_mem_replicate hl]; rfl
 · intro l hl; rw [List.eq_of_mem_replicate hl]; simp [hone]
theorem sl_of_row {b : Nat} {o : Obj} {ls : List (List Value)} {n sz E : Nat} (hb : h b = some o) (ho : o = .cells ls.flatten.toArray E (0, 0)) (hs : ∀ l ∈ ls, l.length = sz) (h1 : ∀ l ∈ ls, l.all oneCell = true) (hn : ls.length = n) (hn2 : n < 2 ^ 62) : Sl h (.slice (some ⟨b, 0, none⟩) n n) sz ls := by
 subst hn;exact ⟨hs, h1, hn2, _, _, rfl, Nat.le_refl _, by omega, .inr ⟨b, 0, o, rfl, hb, by rw [ho]; exact CellsAt.all _ _ _⟩⟩
theorem run_buildSlice1 {t e sz : Nat} {v : Value} {l : List Value} (ht : sliceOf P t e sz = true) (hz : zeroIs P e sz = true) (hv : v.cells = l.toArray) (hl : l.length = sz) (hsz : sz ≤ 65536) (w : World) :
 (Instr.buildSlice t 1 #[(0, v)]).run P w = .ok (.slice (some ⟨w.heap.size, 0, none⟩) 1 1) { w with heap := w.heap.push (.cells l.toArray e) } := by
 obtain ⟨hu, hsi, hpos⟩ := sliceOf_parts ht;obtain ⟨i, z, hi, hiz, hzn, _, _⟩ := zeroIs_parts hz
 have hisz : i.size = sz := by
  unfold sizeIs at hsi; rw [hi] at hsi; exact Nat.eq_of_beq_eq_true hsi
 have hlim : ¬ (16777216 < sz) := by omega
 have hne : ¬ (sz = 0) := by omega
 have hfold : ∀ (l : List Value) (k : Nat) (cs : Array Value), l.length + k ≤ cs.size → (l.zipIdx k).foldl (fun cs (x : Value × Nat) => cs.setIfInBounds (0 + x.2) x.1) cs = (cs.toList.take k ++ l ++ cs.toList.drop (k + l.length)).toArray := by
  intro l
  induction l with
  | nil => intro k cs _; apply Array.toList_inj.1; simp
  | cons x r ih =>
   intro k cs hk;simp only [List.length_cons] at hk;simp only [List.zipIdx_cons, List.foldl_cons];rw [ih (k + 1) _ (by simp; omega)];apply Array.toList_inj.1;simp only [Nat.zero_add, Array.toList_setIfInBounds];rw [List.take_set, List.drop_set]
   have h1 : (cs.toList.take (k + 1)).set k x = cs.toList.take k ++ [x] := by
    rw [List.set_eq_take_append_cons_drop];rw [if_pos (by simp; omega)];simp [List.take_take, show min k (k + 1) = k by omega]
   rw [h1, if_pos (by omega)];simp [Nat.add_comm, Nat.add_left_comm]
 have hfill : Instr.fill (fun i => some (i * sz, sz)) ((Array.range sz).map (fun x => z.cells[x % z.cells.size]!)) [(0, v)] = some l.toArray := by
  unfold Instr.fill;simp only [hv, List.size_toArray, hl, ne_eq, not_true_eq_false, decide_false, Nat.zero_mul, Nat.zero_add, Array.size_map, Array.size_range, Bool.false_or];rw [if_neg (by simp)];unfold Instr.fill;have := hfold l 0 ((Array.range sz).map (fun x => z.cells[x % z.cells.size]!)) (by simp; omega);simp only [List.take_zero, List.nil_append, Nat.zero_add] at this;simp only [← Array.foldl_toList];have h2 : l.toArray.zipIdx.toList = l.zipIdx := by simp
  rw [h2];have hdrop : List.drop l.length (Array.map (fun x => z.cells[x % z.cells.size]!) (Array.range sz)).toList = [] := List.drop_eq_nil_of_le (by simp; omega);rw [hdrop] at this
  simpa using this
 simp [Instr.buildSlice, Go.run_underlying hu, sizeOf, typeInfo, hi, hisz, hlim, hne, zeroValue, hiz, hfill, newRow, newObj];rfl
theorem qB {t e sz : Nat} {v : Value} {l : List Value} (ht : sliceOf P t e sz = true) (hz : zeroIs P e sz = true) (hv : v.cells = l.toArray) (hl : l.length = sz) (hsz : sz ≤ 65536) (hone : l.all oneCell = true) (hk : ∀ u h', GH.le h h' → Sl h' u sz [l] → K u h' L) :
 DoV P c (Instr.buildSlice t 1 #[(0, v)]) h L K := ⟨fun w s => by
 have s1 := s.alloc (.cells l.toArray e (0, 0));have s2 := Ghost.freeze h L w.heap.size (.cells l.toArray e (0, 0)) c _ s1;refine ⟨_, _, _, L, run_buildSlice1 ht hz hv hl hsz w, GH.le_ins s1.free, s2, hk _ _ (GH.le_ins s1.free) ?_⟩;refine sl_of_row (ls := [l]) (E := e) (GH.ins_same _ _ _) (by simp) (by simpa using hl) (by simpa using hone) rfl (by omega)⟩
end
end Go.Brd
namespace Go.Brd
section
variable {P : Program} {c : World} {h : GH} {L : Own} {K : Kont} {KR : Value → Prop}
theorem qc {n : FuncId} {l : List Value} {K0 : Kont} (hf : Fun P c n l.toArray h L K0) (hk : ∀ v h' L', GH.le h h' → K0 v h' L' → K v h' L') : DoCall P c (.func (.func n) #[] #[]) l.toArray h L K :=
 ⟨n, #[], #[], rfl, .inl (by simpa using hf.mono hk)⟩
theorem DoCall.clo {n : FuncId} {l m : List Value} {K0 : Kont} (hf : Fun P c n (l ++ m).toArray h L K0) (hk : ∀ v h' L', GH.le h h' → K0 v h' L' → K v h' L') : DoCall P c (.func (.func n) #[] m.toArray) l.toArray h L K :=
 ⟨n, #[], m.toArray, rfl, .inl (by
  have e : (#[] : Array Value) ++ l.toArray ++ m.toArray = (l ++ m).toArray := by simp
  rw [e]; exact hf.mono hk)⟩
theorem DoCall.ext {n : FuncId} {l : List Value} {K0 : Kont} (hf : Ext P c n l.toArray h L K0) (hk : ∀ v h' L', GH.le h h' → K0 v h' L' → K v h' L') : DoCall P c (.func (.func n) #[] #[]) l.toArray h L K :=
 ⟨n, #[], #[], rfl, .inr (by simpa using hf.mono hk)⟩
theorem Fun.frozen {f : FuncId} {args : Array Value} {E sz : Nat} {ls : List (List Value)} (hsm : ls.length < 2 ^ 62) (hf : Fun P c f args h L (fun v _ L' => ∃ N, L' = N ++ L ∧ OS E sz v ls N)) : Fun P c f args h L (fun v h' L' => L' = L ∧ Sl h' v sz ls) :=
 ⟨hf.plain, fun w s => (hf.run w s).mono fun e w' ⟨v, h', L', e1, hle, s', N, hL, hos⟩ => by
  subst hL;obtain ⟨h2, hfz⟩ := hos.freeze (L := L) (h := h') hsm;obtain ⟨s2, hle2, hsl⟩ := hfz c w' s';exact ⟨v, h2, L, e1, GH.le_trans hle hle2, s2, rfl, hsl⟩⟩
def qR (s : Fr) (keep : List Nat) : Fr := keep.map fun i => (i, (Fr.get s i).getD undef)
theorem qL {B : Fr → GH → Own → (Exit → Post) → Prop} {s : Fr} {Q : Exit → Post} (J : Fr → Nat → Post) {n0 : Nat} {s0 : Fr} {h0 : GH} {L0 : Own} (hJ : J s n0 s0 h0 L0) (hg : Ghost h L h0 L0) (hle : GH.le h h0) (hsub : Fr.Sub s0 s)
 (round : ∀ n s1 h1 L1, GH.le h h1 → J s n s1 h1 L1 → B s1 h1 L1 (fun e s' h' L' => match e with
  | .normal => ∃ m s2 h2 L2, m < n ∧ Ghost h' L' h2 L2 ∧ GH.le h' h2 ∧ Fr.Sub s2 s' ∧ J s m s2 h2 L2
  | e => Q e s' h' L')) : DoLoop P c B s h L Q := ⟨J s, ⟨n0, s0, h0, L0, hg, hle, hsub, hJ⟩, round⟩
theorem back {J : Nat → Post} {n m : Nat} {s' s2 : Fr} {h' h2 : GH} {L' L2 : Own} (hJ : J m s2 h2 L2) (hm : m < n) (hg : Ghost h' L' h2 L2) (hle : GH.le h' h2) (hsub : Fr.Sub s2 s') : ∃ m s2 h2 L2, m < n ∧ Ghost h' L' h2 L2 ∧ GH.le h' h2 ∧ Fr.Sub s2 s' ∧ J m s2 h2 L2 :=
 ⟨m, s2, h2, L2, hm, hg, hle, hsub, hJ⟩
theorem qi {α : Type} {xs : List α} {f : α → List Value} {t e n : Nat} {v : Value} {x : α} {k : Nat} {ik : IntKind} {i : Int} (ht : sliceOf P t e n = true) (hs : Sl h v n (xs.map f)) (hi : (k : Int) = i) (hx : xs[k]? = some x)
 (hk : ∀ p r, (f x).length = n → At h p (f x ++ r) → KR p) : DoR P c (Instr.indexAt t v (.int ik i)) h L KR := by
 have hl : (xs.map f)[k]? = some (f x) := by rw [List.getElem?_map, hx]; rfl
 exact index_at ht hs hi hl fun p r => hk p r (hs.sizes _ (List.mem_of_getElem? hl))
theorem qm {α : Type} {xs : List α} {f : α → List Value} {t e n : Nat} {ty : TypeId} {v : Value} (ht : sliceOf P t e n = true) (hs : Sl h v n (xs.map f)) (hk : KR (.int .i64 (xs.length : Nat))) : DoR P c (Builtin.len_ #[t] ty #[v]) h L KR := by
 refine len_sl ht hs ?_;rw [List.length_map]; exact hk
theorem qP {t n : Nat} {p : Value} {l r : List Value} (ht : aggN P t n = true) (ha : At h p (l ++ r)) (hn : l.length = n) (hk : KR (.agg l.toArray)) : DoR P c (Instr.loadAt t p) h L KR := by
 refine load_agg ht ha (by simp; omega) ?_;rw [← hn, List.take_left]; exact hk
theorem qX {t n : Nat} {p : Value} {l : List Value} (ht : aggN P t n = true) (ha : At h p l) (hn : l.length = n) (hk : KR (.agg l.toArray)) : DoR P c (Instr.loadAt t p) h L KR := by
 refine load_agg ht ha (by omega) ?_;rw [← hn, List.take_length]; exact hk
end
end Go.Brd
namespace Go.Brd
theorem with1_mono {s : Fr} {x : Operand} {k k' : Value → Prop} (hk : ∀ v, k v → k' v) (hh : with1 s x k) : with1 s x k' := by
 unfold with1 at *;split at hh
 · exact hk _ hh
 · exact hh.elim
theorem with2_mono {s : Fr} {x y : Operand} {k k' : Value → Value → Prop} (hk : ∀ u v, k u v → k' u v) (hh : with2 s x y k) : with2 s x y k' := with1_mono (fun u hu => with1_mono (hk u) hu) hh
theorem withO_mono {s : Fr} {x : Option Operand} {k k' : Option Value → Prop} (hk : ∀ v, k v → k' v) (hh : withO s x k) : withO s x k' := by
 cases x with
 | none => exact hk _ hh
 | some y => exact with1_mono (fun v => hk (some v)) hh
theorem withL_mono {s : Fr} : ∀ {xs : List Operand} {k k' : List Value → Prop}, (∀ v, k v → k' v) → withL s xs k → withL s xs k'
 | [], _, _, hk, hh => hk _ hh
 | x :: _, _, _, hk, hh => with1_mono (fun _ hv => withL_mono (fun vs => hk (_ :: vs)) hv) hh
theorem withP_mono {s : Fr} : ∀ {xs : List (Nat × Operand)} {k k' : List (Nat × Value) → Prop}, (∀ v, k v → k' v) → withP s xs k → withP s xs k'
 | [], _, _, hk, hh => hk _ hh
 | (j, x) :: _, _, _, hk, hh => with1_mono (fun _ hv => withP_mono (fun vs => hk ((j, _) :: vs)) hv) hh
section
variable {P : Program} {c : World} {N : Nat} {s : Fr} {h : GH} {Lr L : Own} {ty : TypeId}
theorem vcOp_mono {K K' : Kont} (hk : ∀ v h' L', GH.le h h' → K v h' L' → K' v h' L') {op : Op} (hh : vcOp P c s h Lr L ty K op) : vcOp P c s h Lr L ty K' op := by
 have k0 : ∀ z, K z h L → K' z h L := fun z => hk z h L (GH.le_refl h)
 cases op with
 | move x => simp only [vcOp] at hh ⊢; exact with1_mono k0 hh
 | assign x => simp only [vcOp] at hh ⊢; exact with1_mono k0 hh
 | pick x a b =>
  simp only [vcOp] at hh ⊢;refine with1_mono (fun v hv => ?_) hh;cases v with
  | bool q => cases q <;> exact with1_mono k0 hv
  | _ => exact hv.elim
 | alloc e => simp only [vcOp] at hh ⊢; exact hh.mono hk
 | box e x => simp only [vcOp] at hh ⊢; exact with1_mono (fun v hv => hv.mono hk) hh
 | build ty ps => simp only [vcOp] at hh ⊢; exact withP_mono (fun v hv => hv.mono hk) hh
 | buildSlice ty n ps => simp only [vcOp] at hh ⊢; exact withP_mono (fun v hv => hv.mono hk) hh
 | load ty x => simp only [vcOp] at hh ⊢; exact with1_mono (fun v hv => hv.mono k0) hh
 | store ty x y => simp only [vcOp] at hh ⊢; exact with2_mono (fun u v hv => hv.mono hk) hh
 | nilCheck x =>
  simp only [vcOp] at hh ⊢;refine with1_mono (fun v hv => ?_) hh;split at hv
  · exact k0 _ hv
  · exact k0 _ hv
  · exact hv.elim
 | binOp op ty x y yt => simp only [vcOp] at hh ⊢; exact with2_mono (fun u v hv => hv.mono k0) hh
 | unOp op ty x => simp only [vcOp] at hh ⊢; exact with1_mono (fun v hv => hv.mono k0) hh
 | convert a b x =>
  simp only [vcOp] at hh ⊢;refine with1_mono (fun v hv => ?_) hh;cases v with
  | int k n => exact DoR.mono hv k0
  | _ => exact DoV.mono hv hk
 | makeInterface ty x => simp only [vcOp] at hh ⊢; exact with1_mono (fun v hv => hv.mono k0) hh
 | makeFunc fn fi ca => simp only [vcOp] at hh ⊢; exact withL_mono (fun u hu => withL_mono (fun v hv => k0 _ hv) hu) hh
 | makeMap ty r => simp only [vcOp] at hh ⊢; exact withO_mono (fun v hv => hv.mono hk) hh
 | makeSlice ty x y => simp only [vcOp] at hh ⊢; exact with2_mono (fun u v hv => hv.mono hk) hh
 | slice ty x lo hi mx => simp only [vcOp] at hh ⊢; exact with1_mono (fun v hv => withO_mono (fun a ha => withO_mono (fun b hb => withO_mono (fun m hm => hm.mono k0) hb) ha) hv) hh
 | fieldAddr ty x f => simp only [vcOp] at hh ⊢; exact with1_mono (fun v hv => hv.mono k0) hh
 | field ty x f => simp only [vcOp] at hh ⊢; exact with1_mono (fun v hv => hv.mono k0) hh
 | indexAddr ty x y => simp only [vcOp] at hh ⊢; exact with2_mono (fun u v hv => hv.mono k0) hh
 | index ty x y => simp only [vcOp] at hh ⊢; exact with2_mono (fun u v hv => hv.mono k0) hh
 | lookup ty x y ok => simp only [vcOp] at hh ⊢; exact with2_mono (fun u v hv => hv.mono k0) hh
 | mapUpdate ty m x y => simp only [vcOp] at hh ⊢; exact with1_mono (fun a ha => with2_mono (fun u v hv => hv.mono hk) ha) hh
 | insert ty m x y => simp only [vcOp] at hh ⊢; exact with1_mono (fun a ha => with2_mono (fun u v hv => hv.mono hk) ha) hh
 | mapEntry ty x y => simp only [vcOp] at hh ⊢; exact with2_mono (fun u v hv => hv.mono hk) hh
 | entryStore ty m x y => simp only [vcOp] at hh ⊢; exact with1_mono (fun a ha => with2_mono (fun u v hv => hv.mono hk) ha) hh
 | range ty x => simp only [vcOp] at hh ⊢; exact with1_mono (fun v hv => hv.mono hk) hh
 | next x b => simp only [vcOp] at hh ⊢; exact with1_mono (fun v hv => hv.mono hk) hh
 | entry x => simp only [vcOp] at hh ⊢; exact with1_mono (fun v hv => hv.mono hk) hh
 | extract x i =>
  simp only [vcOp] at hh ⊢;refine with1_mono (fun v hv => ?_) hh;split at hv
  · split at hv
    · exact k0 _ hv
    · exact hv.elim
  · exact hv.elim
 | call cl =>
  obtain ⟨callee, args, ats⟩ := cl;cases callee with
  | value f => simp only [vcOp] at hh ⊢; exact with1_mono (fun fv hfv => withL_mono (fun v hv => hv.mono hk) hfv) hh
  | invoke r n => exact hh.elim
  | builtin b =>
   cases b <;> first | exact hh.elim | (simp only [vcOp] at hh ⊢; exact withL_mono (fun v hv => DoR.mono hv k0) hh) | (simp only [vcOp] at hh ⊢; exact withL_mono (fun v hv => DoV.mono hv hk) hh)
 | _ => exact hh.elim
structure DoOps (P : Program) (c : World) (ops : Array Oper) (r : List Oper) (s : Fr) (h : GH) (L : Own) (Q : Post) : Prop where
 run : vcOps P c ops r s h L Q
theorem qg {ops : Array Oper} {dst : Option Tmp} {op : Op} {type : TypeId} {pos : String} {after : Array Edge} {r : List Oper} {Q : Post} (hd : vcOp P c s h L L type (fun v h' L' => DoOps P c ops r (updF s dst v) h' L' Q) op) :
 DoOps P c ops ({ dst, op, type, pos, after, guard := none } :: r) s h L Q := ⟨by unfold vcOps; exact vcOp_mono (fun v h' L' _ k => k.run) hd⟩
theorem qT {ops : Array Oper} {dst : Option Tmp} {op : Op} {type : TypeId} {pos : String} {after : Array Edge} {j d : Nat} {r : List Oper} {Q : Post} (h1 : (ops[j]?).bind (·.dst) = some d) (h2 : Fr.get s d = some (.bool true)) (hd : vcOp P c s h L L type (fun v h' L' => DoOps P c ops r (updF s dst v) h' L' Q) op) :
 DoOps P c ops ({ dst, op, type, pos, after, guard := some (j, true) } :: r) s h L Q := ⟨by unfold vcOps; rw [h1]; simp only; rw [h2]; exact vcOp_mono (fun v h' L' _ k => k.run) hd⟩
theorem kG {ops : Array Oper} {dst : Option Tmp} {op : Op} {type : TypeId} {pos : String} {after : Array Edge} {j d : Nat} {r : List Oper} {Q : Post} (h1 : (ops[j]?).bind (·.dst) = some d) (h2 : Fr.get s d = some (.bool false)) (hd : vcOp P c s h L L type (fun v h' L' => DoOps P c ops r (updF s dst v) h' L' Q) op) :
 DoOps P c ops ({ dst, op, type, pos, after, guard := some (j, false) } :: r) s h L Q := ⟨by unfold vcOps; rw [h1]; simp only; rw [h2]; exact vcOp_mono (fun v h' L' _ k => k.run) hd⟩
theorem DoOps.skipT {ops : Array Oper} {dst : Option Tmp} {op : Op} {type : TypeId} {pos : String} {after : Array Edge} {j d : Nat} {r : List Oper} {Q : Post} (h1 : (ops[j]?).bind (·.dst) = some d) (h2 : Fr.get s d = some (.bool false)) (hd : DoOps P c ops r (updF s dst undef) h L Q) :
 DoOps P c ops ({ dst, op, type, pos, after, guard := some (j, true) } :: r) s h L Q := ⟨by unfold vcOps; rw [h1]; simp only; rw [h2]; exact hd.run⟩
theorem qk {ops : Array Oper} {dst : Option Tmp} {op : Op} {type : TypeId} {pos : String} {after : Array Edge} {j d : Nat} {r : List Oper} {Q : Post} (h1 : (ops[j]?).bind (·.dst) = some d) (h2 : Fr.get s d = some (.bool true)) (hd : DoOps P c ops r (updF s dst undef) h L Q) :
 DoOps P c ops ({ dst, op, type, pos, after, guard := some (j, false) } :: r) s h L Q := ⟨by unfold vcOps; rw [h1]; simp only; rw [h2]; exact hd.run⟩
theorem DoOps.skipU {ops : Array Oper} {dst : Option Tmp} {op : Op} {type : TypeId} {pos : String} {after : Array Edge} {j d : Nat} {w : Bool} {r : List Oper} {Q : Post} {vs : Array Value} (h1 : (ops[j]?).bind (·.dst) = some d) (h2 : Fr.get s d = some (.tuple vs)) (hd : DoOps P c ops r (updF s dst undef) h L Q) :
 DoOps P c ops ({ dst, op, type, pos, after, guard := some (j, w) } :: r) s h L Q := ⟨by unfold vcOps; rw [h1]; simp only; rw [h2]; exact hd.run⟩
theorem qd {ops : Array Oper} {Q : Post} (hq : Q s h L) : DoOps P c ops [] s h L Q := ⟨hq⟩
def vcS (P : Program) (c : World) (N : Nat) : Code → Fr → GH → Own → (Exit → Post) → Prop
 | .skip, s, h, L, Q => Q .normal s h L
 | .seq a b, s, h, L, Q => vcS P c N a s h L (seqQ (fun s h L => vcS P c N b s h L Q) Q)
 | .cond x a b, s, h, L, Q => with1 s x fun v => match v with
  | .bool true => vcS P c N a s h L Q
  | .bool false => vcS P c N b s h L Q
  | _ => False
 | .block id b, s, h, L, Q => vcS P c N b s h L (blockQ id Q)
 | .loop b, s, h, L, Q => DoLoop P c (fun s h L Q => vcS P c N b s h L Q) s h L Q
 | .exit id, s, h, L, Q => Q (.exit id) s h L
 | .ret, s, h, L, Q => Q .ret s h L
 | .region _ ops false, s, h, L, Q => DoOps P c ops ops.toList s h L (Q .normal)
 | .region _ ops true, s, h, L, Q => DoDraw P c N ops s h L (Q .normal)
 | _, _, _, _, _ => False
end
section
variable {P : Program} {c : World} {N : Nat}
theorem vcS_sound : ∀ (k : Code) (Q : Exit → Post) (s : Fr) (h : GH) (L : Own) (a : Act) (w : World), slotsOk N k = true → Agrees N s a → St c h L w → vcS P c N k s h L Q →
 k.wp P (Good N c h Q) a w := by
 intro k
 induction k with
 | skip => intro Q s h L a w _ ha hs hv; exact wp_skip ⟨s, h, L, ha, GH.le_refl h, hs, hv⟩
 | exit id => intro Q s h L a w _ ha hs hv; exact wp_exit ⟨s, h, L, ha, GH.le_refl h, hs, hv⟩
 | ret => intro Q s h L a w _ ha hs hv; exact wp_ret ⟨s, h, L, ha, GH.le_refl h, hs, hv⟩
 | region id ops draw =>
  intro Q s h L a w hok ha hs hv;cases draw with
  | false =>
   refine wp_region_list (vcOps_sound hok ops.toList hok s h L a w ha hs hv.run ?_);intro a' w' s' h' L' ha' hle hs' hq;exact ⟨s', h', L', ha', hle, hs', hq⟩
  | true =>
   refine wp_region_draw fun t => hv.run a _ t _ ha ⟨hs.os, hs.tape, hs.output, hs.gh, hs.own, hs.sep, hs.nd, Nat.le_succ_of_le hs.dr⟩ ?_
   intro a' w' s' h' L' ha' hle hs' hq;exact ⟨s', h', L', ha', hle, hs', hq⟩
 | seq x y ihx ihy =>
  intro Q s h L a w hok ha hs hv;simp only [slotsOk, Bool.and_eq_true] at hok;refine wp_seq (Code.wp_mono ?_ (ihx _ s h L a w hok.1 ha hs hv));rintro e a' w' ⟨s', h', L', ha', hle, hs', hq⟩;cases e with
  | normal =>
   refine Code.wp_mono ?_ (ihy Q s' h' L' a' w' hok.2 ha' hs' hq);rintro e a'' w'' ⟨s2, h2, L2, ha2, hle2, hs2, hq2⟩;exact ⟨s2, h2, L2, ha2, GH.le_trans hle hle2, hs2, hq2⟩
  | _ => exact ⟨s', h', L', ha', hle, hs', hq⟩
 | cond x y z ihy ihz =>
  intro Q s h L a w hok ha hs hv;simp only [slotsOk, Bool.and_eq_true] at hok;have := with1_eval ha hv;cases hx : a.eval x with
  | bool t =>
   rw [hx] at this;cases t with
   | true => exact wp_cond_true hx (ihy Q s h L a w hok.1 ha hs this)
   | false => exact wp_cond_false hx (ihz Q s h L a w hok.2 ha hs this)
  | _ => rw [hx] at this; exact this.elim
 | block id b ih =>
  intro Q s h L a w hok ha hs hv;refine wp_block (Code.wp_mono ?_ (ih _ s h L a w hok ha hs hv));rintro e a' w' ⟨s', h', L', ha', hle, hs', hq⟩;cases e with
  | exit i =>
   unfold Exit.inBlock;by_cases hi : i = id
   · subst hi
     simp only [if_true];refine ⟨s', h', L', ha', hle, hs', ?_⟩
     simpa [blockQ] using hq
   · simp only [hi, if_false]
     refine ⟨s', h', L', ha', hle, hs', ?_⟩
     have hbq : Nat.beq i id = false := by
      cases hb : Nat.beq i id with
      | true => exact (hi (Nat.eq_of_beq_eq_true hb)).elim
      | false => rfl
     simpa [blockQ, hbq] using hq
  | _ => exact ⟨s', h', L', ha', hle, hs', hq⟩
 | loop b ih =>
  intro Q s h L a w hok ha hs hv;obtain ⟨I, ⟨n, s0, h0, L0, hg, hle, hsub, hI⟩, hround⟩ := hv.ex
  have key : ∀ n a w, (∃ s1 h1 L1, Agrees N s1 a ∧ GH.le h h1 ∧ St c h1 L1 w ∧ I n s1 h1 L1) →
   b.wp P (fun e a' w' => match e with
    | .normal => ∃ m, m < n ∧ ∃ s1 h1 L1, Agrees N s1 a' ∧ GH.le h h1 ∧ St c h1 L1 w' ∧ I m s1 h1 L1
    | e => Good N c h Q e a' w') a w := by
   rintro n a w ⟨s1, h1, L1, ha1, hle1, hs1, hI1⟩;refine Code.wp_mono ?_ (ih _ s1 h1 L1 a w hok ha1 hs1 (hround n s1 h1 L1 hle1 hI1));rintro e a' w' ⟨s', h', L', ha', hle', hs', hq⟩;cases e with
   | normal =>
    obtain ⟨m, s2, h2, L2, hm, hg2, hle2, hsub2, hI2⟩ := hq;exact ⟨m, hm, s2, h2, L2, ha'.sub hsub2, GH.le_trans hle1 (GH.le_trans hle' hle2), hg2 c w' hs', hI2⟩
   | _ => exact ⟨s', h', L', ha', GH.le_trans hle1 hle', hs', hq⟩
  exact wp_loop_exS (P := P) (c := b) (Q := Good N c h Q) (fun n a w => ∃ s1 h1 L1, Agrees N s1 a ∧ GH.le h h1 ∧ St c h1 L1 w ∧ I n s1 h1 L1) n ⟨s0, h0, L0, ha.sub hsub, hle, hg c w hs, hI⟩ key
 | label l => intro Q s h L a w _ _ _ hv; exact hv.elim
 | goto l => intro Q s h L a w _ _ _ hv; exact hv.elim
 | scope b _ => intro Q s h L a w _ _ _ hv; exact hv.elim
 | refuse why => intro Q s h L a w _ _ _ hv; exact hv.elim
 | rangeFunc f ps x b _ _ => intro Q s h L a w _ _ _ hv; exact hv.elim
where
 wp_loop_exS {P : Program} {c : Code} {Q : Exit → Act → World → Prop} (J : Nat → Act → World → Prop) (n : Nat) {a : Act} {w : World} (h₀ : J n a w)
  (round : ∀ n a w, J n a w → c.wp P (fun e a' w' => match e with
   | .normal => ∃ m, m < n ∧ J m a' w'
   | e => Q e a' w') a w) : (Code.loop c).wp P Q a w := by
  intro b k cs
  have key : ∀ n a w, J n a w → ∃ e a' w', Q e a' w' ∧ Arrives P (lone (b.at a (.code c :: .inLoop c :: k)) cs w) b k cs e a' w' := by
   intro n
   induction n using Nat.strongRecOn with
   | _ n ih =>
    intro a w hI;obtain ⟨e, a₁, w₁, hq, harr⟩ := round n a w hI b (.inLoop c :: k) cs;cases e with
    | normal =>
     obtain ⟨m, hlt, hI₁⟩ := hq;obtain ⟨e₂, a₂, w₂, hq₂, harr₂⟩ := ih m hlt a₁ w₁ hI₁;exact ⟨e₂, a₂, w₂, hq₂, .of_steps (Steps.trans harr (.one step_inLoop)) harr₂⟩
    | exit id => exact ⟨_, a₁, w₁, hq, .pass (x := .inLoop c) rfl (fun _ _ => .inl (by simp)) harr⟩
    | goto l => exact ⟨_, a₁, w₁, hq, .pass (x := .inLoop c) rfl (fun _ _ => .inl (by simp)) harr⟩
    | ret => exact ⟨_, a₁, w₁, hq, .pass (x := .inLoop c) rfl (fun _ _ => .inl (by simp)) harr⟩
    | panic ch => exact ⟨_, a₁, w₁, hq, .pass (x := .inLoop c) rfl (fun _ _ => .inl (by simp)) harr⟩
    | outgrown => exact ⟨_, a₁, w₁, hq, .pass (x := .inLoop c) rfl (fun _ _ => .inl (by simp)) harr⟩
  obtain ⟨e, a', w', hq, harr⟩ := key n a w h₀;exact ⟨e, a', w', hq, .of_steps (.one step_loop) harr⟩
theorem Fun.of_vcS {f : FuncId} {fn : Func} {k : Code} {args : List Value} {h : GH} {L : Own} {K : Kont} (hf : P.funcs[f]? = some fn) (hb : fn.body = some k) (hN : fn.ntmps = N) (hlen : args.length ≤ N)
 (hnm : (fn.name == "runtime.NumGoroutine") = false) (hok : slotsOk N k = true) (hv : vcS P c N k (initFr 0 args) h L (endQ P c fn.results.toList K)) : Fun P c f args.toArray h L K := by
 refine ⟨by simp [Go.Brd.plain, hf, hb, hnm], fun w hs => ?_⟩;refine calls_of_wp hf hb (Code.wp_mono ?_ (vcS_sound k _ (initFr 0 args) h L _ w hok ?_ hs hv))
 · rintro e a' w' ⟨s', h', L', ha', hle, hs', hq⟩
   have fin : DoRet fn.results.toList s' h' L' P c K → a'.defers = [] ∧ ∃ v, (results fn a'.tmps).run P w' = .ok v w' ∧ ∃ v' h'' L'', Ending.returned v = Ending.returned v' ∧ GH.le h h'' ∧ St c h'' L'' w' ∧ K v' h'' L'' := by
    intro hd;obtain ⟨v, h2, L2, hr, hle2, hs2, hk⟩ := hd.run a'.tmps w' fn rfl ha'.2.2 hs';exact ⟨ha'.2.1, v, hr, v, h2, L2, rfl, GH.le_trans hle hle2, hs2, hk⟩
   cases e with
   | normal => exact fin hq
   | ret => exact fin hq
   | _ => exact hq.elim
 · refine ⟨?_, rfl, ?_⟩
   · simp only [Array.size_append, List.size_toArray, Array.size_replicate, hN]; omega
   · intro i v e
     have this : args[i]? = some v := (initFr_get args 0 i v e).2
     have hi : i < args.length := by
      rcases Nat.lt_or_ge i args.length with h | h
      · exact h
      · rw [List.getElem?_eq_none h] at this; cases this
     have h2 : (args.toArray ++ Array.replicate (fn.ntmps - args.toArray.size) undef)[i]? = some v := by
      rw [Array.getElem?_append_left (by simpa using hi)]; simpa using this
     rw [Array.getD_eq_getD_getElem?, h2]; rfl
end
end Go.Brd
namespace Go.Brd
def isPureOp : Op → Bool
 | .move _ | .assign _ | .pick .. | .nilCheck _ | .extract .. | .makeFunc .. => true
 | _ => false
def pairOkD (D : List Nat) (ops : Array Oper) (M : List Nat) (i j : Nat) : Bool :=
 !Nat.beq i j && match ops[i]?, ops[j]? with
  | some x, some y => !depsHas x j && (Nat.testBit (M.getD j 0) i || (isRd x.op && apart ops x y && !D.contains i && (!D.contains j || isPureOp x.op)))
  | _, _ => false
def pairsOkD (D : List Nat) (ops : Array Oper) (M : List Nat) : List Nat → Bool
 | [] => true
 | i :: r => r.all (pairOkD D ops M i) && pairsOkD D ops M r
def drawOkD (D : List Nat) (N : Nat) (ops : Array Oper) (σ : List Nat) : Bool :=
 ops.toList.all (dstOk N) && masksOk (masksGo ops.toList []) 0 ops.toList && Nat.beq σ.length ops.size && σ.all (fun i => Nat.blt i ops.size) && (List.range ops.size).all (fun i => σ.contains i) && pairsOkD D ops (masksGo ops.toList []) σ
def vcDrawD (P : Program) (c : World) (ops : Array Oper) (D : List Nat) : Own → List Nat → Fr → GH → Own → Post → Prop
 | _, [], s, h, L, Q => ∃ s', Fr.Sub s' s ∧ Q s' h L
 | Lr, i :: σ, s, h, L, Q => match ops[i]? with
  | some o => StepK P c ops (bif D.contains i then [] else Lr) o s h L (fun v h' L' => vcDrawD P c ops D (bif D.contains i then [] else Lr) σ (updF s o.dst v) h' L' Q)
  | none => False
section
variable {P : Program} {c : World} {N : Nat} {ops : Array Oper} {D : List Nat}
theorem pairsOkD_append {M : List Nat} : ∀ {A B : List Nat}, pairsOkD D ops M (A ++ B) = true → (∀ i ∈ A, ∀ j ∈ B, pairOkD D ops M i j = true) ∧ pairsOkD D ops M B = true
 | [], _, h => ⟨fun _ hi => by simp at hi, h⟩
 | i :: A, B, h => by
  simp only [List.cons_append, pairsOkD, Bool.and_eq_true, List.all_append] at h;have := pairsOkD_append h.2;refine ⟨fun x hx j hj => ?_, this.2⟩;rcases List.mem_cons.1 hx with rfl | hx
  · exact List.all_eq_true.1 h.1.2 j hj
  · exact this.1 x hx j hj
theorem pairsOkD_drop {M : List Nat} : ∀ {A B : List Nat} {i : Nat}, pairsOkD D ops M (A ++ i :: B) = true → pairsOkD D ops M (A ++ B) = true
 | [], _, _, h => by simp only [List.nil_append, pairsOkD, Bool.and_eq_true] at h; exact h.2
 | x :: A, B, i, h => by
  simp only [List.cons_append, pairsOkD, Bool.and_eq_true, List.all_append, List.all_cons] at h ⊢;exact ⟨⟨h.1.1, h.1.2.2⟩, pairsOkD_drop h.2⟩
theorem pairsOkD_nodup {M : List Nat} : ∀ {l : List Nat}, pairsOkD D ops M l = true → l.Nodup
 | [], _ => List.nodup_nil
 | i :: r, h => by
  simp only [pairsOkD, Bool.and_eq_true] at h;refine List.nodup_cons.2 ⟨fun hi => ?_, pairsOkD_nodup h.2⟩;have := List.all_eq_true.1 h.1 i hi;simp [pairOkD] at this
theorem vcDrawD_sub {Q : Post} : ∀ {σ : List Nat} {Lr : Own} {s t : Fr} {h : GH} {L : Own}, Fr.Sub s t → (∀ e ∈ Lr, e ∈ L) → vcDrawD P c ops D Lr σ s h L Q → vcDrawD P c ops D Lr σ t h L Q
 | [], _, _, _, _, _, hs, _, ⟨s', h1, h2⟩ => ⟨s', fun i v e => hs i v (h1 i v e), h2⟩
 | i :: σ, Lr, s, t, h, L, hs, hL, hh => by
  unfold vcDrawD at hh ⊢;cases hi : ops[i]? with
  | none => rw [hi] at hh; exact hh.elim
  | some o =>
   rw [hi] at hh;have hL2 : ∀ e ∈ (bif D.contains i then [] else Lr), e ∈ L := by cases D.contains i; exact hL; simp
   exact StepK.sub (hs.on _) hL2 (fun v h' L' _ hL' hv => vcDrawD_sub (hs.upd _ _) hL' hv) hh
theorem StepK.pure {Lr Lr2 : Own} {o : Oper} {s : Fr} {h : GH} {L : Own} {k : Kont} (hp : isPureOp o.op = true) (hr : isRd o.op = true) (hh : StepK P c ops Lr o s h L k) : StepK P c ops Lr2 o s h L k := by
 have e : ∀ K : Value → Prop, rdOp P c s h Lr o.type K o.op → rdOp P c s h Lr2 o.type K o.op := by
  intro K;cases ho : o.op <;> rw [ho] at hp <;> first | (cases hp; done) | exact fun x => x
 unfold StepK at hh ⊢;cases hg : o.guard with
 | none => simp only [hg, hr, cond_true] at hh ⊢; exact e _ hh
 | some g =>
  obtain ⟨j, want⟩ := g;simp only [hg, hr, cond_true] at hh ⊢;cases hd : (ops[j]?).bind (·.dst) with
  | none => rw [hd] at hh; exact hh.elim
  | some d =>
   rw [hd] at hh;simp only at hh ⊢;cases hgs : Fr.get s d with
   | none => rw [hgs] at hh; exact hh.elim
   | some u =>
    rw [hgs] at hh;cases u with
    | bool b => cases b <;> cases want <;> first | exact e _ hh | exact hh
    | tuple vs => exact hh
    | _ => exact hh.elim
theorem vcDrawD_swap {Q : Post} {Lr : Own} {i j : Nat} {x y : Oper} {σ : List Nat} {s : Fr} {h : GH} {L : Own} (hx : ops[i]? = some x) (hy : ops[j]? = some y) (hr : isRd x.op = true) (ha : apart ops x y = true) (hi : D.contains i = false) (hj : D.contains j = false ∨ isPureOp x.op = true) (hL : ∀ e ∈ Lr, e ∈ L)
 (hh : vcDrawD P c ops D Lr (i :: j :: σ) s h L Q) : vcDrawD P c ops D Lr (j :: i :: σ) s h L Q := by
 obtain ⟨a1, a2, a3⟩ := apart_spec ha;unfold vcDrawD at hh ⊢;rw [hx] at hh; rw [hy];cases hjb : D.contains j with
 | false =>
  simp only [hi, hjb, cond_false] at hh ⊢;obtain ⟨vx, hv, hb⟩ := StepK.stable hr hh;unfold vcDrawD at hv;rw [hy] at hv;simp only [hjb, cond_false] at hv;refine StepK.sub (SubOn.updL a1) hL (fun vy h' L' hle hL' hk => ?_) hv;unfold vcDrawD;rw [hx];simp only [hi, cond_false];exact hb _ h' L' _ (SubOn.updR a3) hle hL' (vcDrawD_sub (Fr.Sub.swap a2) hL' hk)
 | true =>
  have hp : isPureOp x.op = true := hj.elim (fun e => by rw [hjb] at e; cases e) id;simp only [hi, hjb, cond_false, cond_true] at hh ⊢;have hh2 := StepK.pure (Lr2 := []) hp hr hh;obtain ⟨vx, hv, hb⟩ := StepK.stable hr hh2;unfold vcDrawD at hv;rw [hy] at hv;simp only [hjb, cond_true] at hv;refine StepK.sub (SubOn.updL a1) (fun _ h => by cases h) (fun vy h' L' hle hL' hk => ?_) hv;unfold vcDrawD;rw [hx];simp only [hi, cond_false];exact hb _ h' L' _ (SubOn.updR a3) hle (fun _ h => by cases h) (vcDrawD_sub (Fr.Sub.swap a2) (fun _ h => by cases h) hk)
theorem vcDrawD_front {Q : Post} {j : Nat} {y : Oper} (hy : ops[j]? = some y) : ∀ {A B : List Nat} {Lr : Own} {s : Fr} {h : GH} {L : Own}, (∀ i ∈ A, ∃ x, ops[i]? = some x ∧ isRd x.op = true ∧ apart ops x y = true ∧ D.contains i = false ∧ (D.contains j = false ∨ isPureOp x.op = true)) → (∀ e ∈ Lr, e ∈ L) →
 vcDrawD P c ops D Lr (A ++ j :: B) s h L Q → vcDrawD P c ops D Lr (j :: (A ++ B)) s h L Q
 | [], _, _, _, _, _, _, _, hh => hh
 | i :: A, B, Lr, s, h, L, hA, hL, hh => by
  obtain ⟨x, hx, hr, ha, hi, hj⟩ := hA i (by simp);refine vcDrawD_swap hx hy hr ha hi hj hL ?_;unfold vcDrawD at hh;simp only [List.cons_append] at hh;unfold vcDrawD;simp only [hx, hi, cond_false] at hh ⊢;exact StepK.sub (fun _ _ _ e => e) hL (fun v h' L' _ hL' hk => vcDrawD_front hy (fun i hi => hA i (by simp [hi])) hL' hk) hh
theorem draw_anyD {M : List Nat} {h0 : GH} {Q : Post} {R : Exit → Act → World → Prop} (hall : ops.toList.all (dstOk N) = true) (hm : masksOk M 0 ops.toList = true)
 (hR : ∀ a' w' s' h' L', Agrees N s' a' → St c h' L' w' → Q s' h' L' → GH.le h0 h' → R .normal a' w') :
 ∀ (fuel : Nat) (Lr : Own) (σ : List Nat) (listed : Array Bool) (s : Fr) (h : GH) (L : Own) (a : Act) (w : World), fuel = σ.length → pairsOkD D ops M σ = true → listed.size = ops.size → (∀ i, i < ops.size → (listed.getD i true = false ↔ i ∈ σ)) → (∀ i ∈ σ, i < ops.size) →
  (∀ j o, ops[j]? = some o → listed.getD j true = true → ∀ e ∈ o.after, binding e = true → listed.getD e.on false = true) → Agrees N s a → St c h L w → (∀ e ∈ Lr, e ∈ L) → GH.le h0 h → vcDrawD P c ops D Lr σ s h L Q → wpAny P .any ops R fuel listed a w := by
 have getDs : ∀ (l : Array Bool) (i : Nat) (b b' : Bool), i < l.size → l.getD i b = l.getD i b' := fun l i b b' hi => by simp [Array.getD, hi]
 intro fuel
 induction fuel with
 | zero =>
  intro Lr σ listed s h L a w hf hp hsz hl hlt hcl ha hs hL hle hv;have hσ : σ = [] := List.length_eq_zero_iff.1 hf.symm;subst hσ;obtain ⟨s', h1, h2⟩ := hv;refine ⟨?_, hR a w s' h L (ha.sub h1) hs h2 hle⟩;unfold Region.ready;apply List.filter_eq_nil_iff.2;intro i hi hc;simp only [Bool.and_eq_true, Bool.not_eq_true'] at hc;have := (hl i (by simpa using hi)).1 hc.1;simp at this
 | succ fuel ih =>
  intro Lr σ listed s h L a w hf hp hsz hl hlt hcl ha hs hL hle hv;refine ⟨fun hnil => ?_, fun i hi => ?_⟩
  ·
   exfalso;cases σ with
   | nil => simp at hf
   | cons i r =>
    have hin := hlt i (by simp);obtain ⟨o, ho⟩ : ∃ o, ops[i]? = some o := ⟨ops[i], Array.getElem?_eq_getElem _⟩
    have : i ∈ Region.ready .any ops listed := by
     unfold Region.ready;refine List.mem_filter.2 ⟨by simpa using hin, ?_⟩;simp only [Bool.and_eq_true, Bool.not_eq_true'];refine ⟨(hl i hin).2 (by simp), ?_⟩;simp only [ho, Option.map_some, Option.getD_some];rw [Array.all_eq_true'];intro e he;cases hb : binding e with
     | false => unfold binding at hb; simp [hb]
     | true =>
      have ho' : ops.toList[i]? = some o := by simpa using ho
      have hlt2 := (masksOk_at hm ho').2 e he hb;simp only [Nat.zero_add] at hlt2;cases hld : listed.getD e.on true with
      | true => rw [getDs _ _ _ true (by omega)]; simp [hld]
      | false =>
       exfalso;have hmem := (hl e.on (by omega)).1 hld;rcases List.mem_cons.1 hmem with h3 | h3
       · omega
       · simp only [pairsOkD, Bool.and_eq_true] at hp
         have := List.all_eq_true.1 hp.1 e.on h3;obtain ⟨o2, ho2⟩ : ∃ o2, ops[e.on]? = some o2 := ⟨ops[e.on]'(by omega), Array.getElem?_eq_getElem _⟩;simp only [pairOkD, ho, ho2, Bool.and_eq_true, Bool.not_eq_true'] at this;have hd : depsHas o e.on = true := List.any_eq_true.2 ⟨e, Array.mem_toList_iff.2 he, by simp [hb]⟩;rw [hd] at this;exact absurd this.2.1 (by simp)
    rw [hnil] at this; simp at this
  · unfold Region.ready at hi
    obtain ⟨hi1, hi2⟩ := List.mem_filter.1 hi;have hin : i < ops.size := by simpa using hi1
    obtain ⟨o, ho⟩ : ∃ o, ops[i]? = some o := ⟨ops[i], Array.getElem?_eq_getElem _⟩;simp only [Bool.and_eq_true, Bool.not_eq_true', ho, Option.map_some, Option.getD_some] at hi2;obtain ⟨hi2, hi3⟩ := hi2
    have hdeps : ∀ e ∈ o.after, binding e = true → listed.getD e.on false = true := fun e he hb => by
     have := (Array.all_eq_true'.1 hi3) e he;unfold binding at hb
     simpa [hb] using this
    have hmem := (hl i hin).1 hi2;obtain ⟨A, B, rfl⟩ := List.append_of_mem hmem
    have hA : ∀ x ∈ A, ∃ ox, ops[x]? = some ox ∧ isRd ox.op = true ∧ apart ops ox o = true ∧ D.contains x = false ∧ (D.contains i = false ∨ isPureOp ox.op = true) := by
     intro x hx;have hxn := hlt x (by simp [hx]);obtain ⟨ox, hox⟩ : ∃ o, ops[x]? = some o := ⟨ops[x], Array.getElem?_eq_getElem _⟩;have hpr := (pairsOkD_append hp).1 x hx i (by simp);simp only [pairOkD, hox, ho, Bool.and_eq_true, Bool.or_eq_true] at hpr;rcases hpr.2.2 with hb | hb
     · exfalso
       have hcl' : ∀ j o, ops[j]? = some o → (listed.getD j false = true) → ∀ e ∈ o.after, binding e = true → listed.getD e.on false = true := fun j o' ho' hj => hcl j o' ho' (by
        have : j < ops.size := (Array.getElem?_eq_some_iff.1 ho').1;rw [getDs _ _ _ false (by omega)]; exact hj)
       have := mask_closed (listed := fun j => listed.getD j false = true) hm hcl' i o ho hdeps x hb;have h2 := (hl x hxn).2 (by simp [hx]);rw [getDs _ _ true false (by omega)] at h2;rw [h2] at this; cases this
     · simp only [Bool.not_eq_true', Bool.or_eq_true] at hb
       exact ⟨ox, hox, hb.1.1.1, hb.1.1.2, hb.1.2, hb.2⟩
    have hv2 := vcDrawD_front ho hA hL hv;unfold vcDrawD at hv2;rw [ho] at hv2;have hL2 : ∀ e ∈ (bif D.contains i then [] else Lr), e ∈ L := by cases D.contains i; exact hL; simp
    refine wpOp_of_step (R := R) ho hall ha hs hL2 (fun v w' h' L' hle' hs' hL' hk => ?_) hv2;have hdo : dstOk N o = true := List.all_eq_true.1 hall o (by rw [Array.mem_toList_iff]; exact Array.mem_of_getElem? ho);have hnd := pairsOkD_nodup hp;refine ih _ (A ++ B) (listed.setIfInBounds i true) (updF s o.dst v) h' L' (a.put o.dst v) w' (by simp at hf ⊢; omega) (pairsOkD_drop hp) (by simpa using hsz) ?_ (fun x hx => hlt x (by rcases List.mem_append.1 hx with h | h <;> simp [h])) ?_ (ha.upd hdo) hs' hL' (GH.le_trans hle hle') hk
    · intro x hx
      have hnot : i ∉ A ++ B := by
       exact (List.nodup_cons.1 ((List.perm_middle (a := i) (l₁ := A) (l₂ := B)).nodup_iff.1 hnd)).1
      by_cases hxi : x = i
      · subst hxi
        have : (listed.setIfInBounds x true).getD x true = true := by simp [Array.getD]
        rw [this];exact ⟨fun h => (by cases h), fun h => (hnot h).elim⟩
      · have : (listed.setIfInBounds i true).getD x true = listed.getD x true := by
         simp only [Array.getD_eq_getD_getElem?, Array.getElem?_setIfInBounds, if_neg (Ne.symm hxi)]
        rw [this, hl x hx];constructor
        · intro h
          rcases List.mem_append.1 h with h | h
          · simp [h]
          · rcases List.mem_cons.1 h with h | h
            · exact (hxi h).elim
            · simp [h]
        · intro h
          rcases List.mem_append.1 h with h | h <;> simp [h]
    · intro j oj hoj hj e he hb
      have mono : listed.getD e.on false = true → (listed.setIfInBounds i true).getD e.on false = true := fun h => by
       by_cases hei : e.on = i
       · subst hei
         have : e.on < listed.size := by omega
         simp [Array.getD, this]
       · simp only [Array.getD_eq_getD_getElem?, Array.getElem?_setIfInBounds, if_neg (Ne.symm hei)] at h ⊢; exact h
      by_cases hji : j = i
      · subst hji
        rw [ho] at hoj; cases hoj;exact mono (hdeps e he hb)
      · have : (listed.setIfInBounds i true).getD j true = listed.getD j true := by
         simp only [Array.getD_eq_getD_getElem?, Array.getElem?_setIfInBounds, if_neg (Ne.symm hji)]
        rw [this] at hj;exact mono (hcl j oj hoj hj e he hb)
theorem DoDraw.introD (hmix : P.follows .mixedOrders = true) (D : List Nat) (σ : List Nat) (Lr : Own) {s : Fr} {h : GH} {L : Own} {Q : Post} (hok : drawOkD D N ops σ = true) (hL : ∀ e ∈ Lr, e ∈ L) (hv : vcDrawD P c ops D Lr σ s h L Q) : DoDraw P c N ops s h L Q := by
 simp only [drawOkD, Bool.and_eq_true] at hok;obtain ⟨⟨⟨⟨⟨hall, hm⟩, hlen⟩, hlt⟩, hcov⟩, hp⟩ := hok;refine ⟨fun a w t R ha hs hR => ?_⟩;simp only [Region.schedule, hmix, Bool.true_or, if_true];refine wpAny_sound ops.size t _ a w ?_;have hlen' := Nat.eq_of_beq_eq_true hlen;refine draw_anyD (h0 := h) (Q := Q) (c := c) hall hm (fun a' w' s' h' L' h1 h2 h3 h4 => hR a' w' s' h' L' h1 h4 h2 h3) ops.size Lr σ _ s h L a w hlen'.symm hp (by simp) ?_ (fun i hi => Nat.blt_eq.mp (List.all_eq_true.1 hlt i hi)) ?_ ha hs hL (GH.le_refl h) hv
 · intro i hi
   have : σ.contains i = true := List.all_eq_true.1 hcov i (by simpa using hi);simp only [Array.getD, Array.size_replicate, hi, dite_true]
   simpa using this
 · intro j o ho hj
   have hjn := (Array.getElem?_eq_some_iff.1 ho).1;simp [Array.getD, hjn] at hj
structure DoDr (P : Program) (c : World) (ops : Array Oper) (D : List Nat) (Lr : Own) (σ : List Nat) (s : Fr) (h : GH) (L : Own) (Q : Post) : Prop where
 run : vcDrawD P c ops D Lr σ s h L Q
theorem qD (hmix : P.follows .mixedOrders = true) (D : List Nat) (σ : List Nat) (Lr : Own) {s : Fr} {h : GH} {L : Own} {Q : Post} (hok : drawOkD D N ops σ = true) (hL : ∀ e ∈ Lr, e ∈ L) (hv : DoDr P c ops D Lr σ s h L Q) : DoDraw P c N ops s h L Q :=
 .introD hmix D σ Lr hok hL hv.run
end
end Go.Brd
namespace Go.Brd
section
variable {P : Program} {c : World} {N : Nat} {ops : Array Oper} {D : List Nat} {Lr L : Own} {s : Fr} {h : GH} {Q : Post}
theorem qr {i : Nat} {σ : List Nat} {dst : Option Tmp} {op : Op} {type : TypeId} {pos : String} {after : Array Edge} (ho : ops[i]? = some { dst := dst, op := op, type := type, pos := pos, after := after, guard := none }) (hD : D.contains i = false) (hr : isRd op = true) (hd : rdOp P c s h Lr type (fun v => DoDr P c ops D Lr σ (updF s dst v) h L Q) op) : DoDr P c ops D Lr (i :: σ) s h L Q := ⟨by
 unfold vcDrawD;rw [ho];simp only [hD, cond_false, cond_true];unfold StepK;simp only [hr, cond_true, cond_false];exact rdOp_sub (fun i hi => hi) (fun _ _ _ e => e) (fun v k => k.run) hd⟩
theorem DoDr.rdT {i : Nat} {σ : List Nat} {dst : Option Tmp} {op : Op} {type : TypeId} {pos : String} {after : Array Edge} {j d : Nat} (h1 : (ops[j]?).bind (·.dst) = some d) (h2 : Fr.get s d = some (.bool true)) (ho : ops[i]? = some { dst := dst, op := op, type := type, pos := pos, after := after, guard := some (j, true) }) (hD : D.contains i = false) (hr : isRd op = true) (hd : rdOp P c s h Lr type (fun v => DoDr P c ops D Lr σ (updF s dst v) h L Q) op) : DoDr P c ops D Lr (i :: σ) s h L Q := ⟨by
 unfold vcDrawD;rw [ho];simp only [hD, cond_false, cond_true];unfold StepK;simp only [h1, h2];simp only [hr, cond_true, cond_false];exact rdOp_sub (fun i hi => hi) (fun _ _ _ e => e) (fun v k => k.run) hd⟩
theorem DoDr.rdF {i : Nat} {σ : List Nat} {dst : Option Tmp} {op : Op} {type : TypeId} {pos : String} {after : Array Edge} {j d : Nat} (h1 : (ops[j]?).bind (·.dst) = some d) (h2 : Fr.get s d = some (.bool false)) (ho : ops[i]? = some { dst := dst, op := op, type := type, pos := pos, after := after, guard := some (j, false) }) (hD : D.contains i = false) (hr : isRd op = true) (hd : rdOp P c s h Lr type (fun v => DoDr P c ops D Lr σ (updF s dst v) h L Q) op) : DoDr P c ops D Lr (i :: σ) s h L Q := ⟨by
 unfold vcDrawD;rw [ho];simp only [hD, cond_false, cond_true];unfold StepK;simp only [h1, h2];simp only [hr, cond_true, cond_false];exact rdOp_sub (fun i hi => hi) (fun _ _ _ e => e) (fun v k => k.run) hd⟩
theorem qj {i : Nat} {σ : List Nat} {dst : Option Tmp} {op : Op} {type : TypeId} {pos : String} {after : Array Edge} (ho : ops[i]? = some { dst := dst, op := op, type := type, pos := pos, after := after, guard := none }) (hD : D.contains i = false) (hr : isRd op = false) (hd : vcOp P c s h L L type (fun v h' L' => (∀ e ∈ Lr, e ∈ L') ∧ DoDr P c ops D Lr σ (updF s dst v) h' L' Q) op) : DoDr P c ops D Lr (i :: σ) s h L Q := ⟨by
 unfold vcDrawD;rw [ho];simp only [hD, cond_false, cond_true];unfold StepK;simp only [hr, cond_true, cond_false];exact vcOp_mono (fun v h' L' _ k => ⟨k.1, k.2.run⟩) hd⟩
theorem DoDr.efT {i : Nat} {σ : List Nat} {dst : Option Tmp} {op : Op} {type : TypeId} {pos : String} {after : Array Edge} {j d : Nat} (h1 : (ops[j]?).bind (·.dst) = some d) (h2 : Fr.get s d = some (.bool true)) (ho : ops[i]? = some { dst := dst, op := op, type := type, pos := pos, after := after, guard := some (j, true) }) (hD : D.contains i = false) (hr : isRd op = false) (hd : vcOp P c s h L L type (fun v h' L' => (∀ e ∈ Lr, e ∈ L') ∧ DoDr P c ops D Lr σ (updF s dst v) h' L' Q) op) : DoDr P c ops D Lr (i :: σ) s h L Q := ⟨by
 unfold vcDrawD;rw [ho];simp only [hD, cond_false, cond_true];unfold StepK;simp only [h1, h2];simp only [hr, cond_true, cond_false];exact vcOp_mono (fun v h' L' _ k => ⟨k.1, k.2.run⟩) hd⟩
theorem DoDr.efF {i : Nat} {σ : List Nat} {dst : Option Tmp} {op : Op} {type : TypeId} {pos : String} {after : Array Edge} {j d : Nat} (h1 : (ops[j]?).bind (·.dst) = some d) (h2 : Fr.get s d = some (.bool false)) (ho : ops[i]? = some { dst := dst, op := op, type := type, pos := pos, after := after, guard := some (j, false) }) (hD : D.contains i = false) (hr : isRd op = false) (hd : vcOp P c s h L L type (fun v h' L' => (∀ e ∈ Lr, e ∈ L') ∧ DoDr P c ops D Lr σ (updF s dst v) h' L' Q) op) : DoDr P c ops D Lr (i :: σ) s h L Q := ⟨by
 unfold vcDrawD;rw [ho];simp only [hD, cond_false, cond_true];unfold StepK;simp only [h1, h2];simp only [hr, cond_true, cond_false];exact vcOp_mono (fun v h' L' _ k => ⟨k.1, k.2.run⟩) hd⟩
theorem DoDr.drop {i : Nat} {σ : List Nat} {dst : Option Tmp} {op : Op} {type : TypeId} {pos : String} {after : Array Edge} (ho : ops[i]? = some { dst := dst, op := op, type := type, pos := pos, after := after, guard := none }) (hD : D.contains i = true) (hr : isRd op = false) (hd : vcOp P c s h L L type (fun v h' L' => DoDr P c ops D [] σ (updF s dst v) h' L' Q) op) : DoDr P c ops D Lr (i :: σ) s h L Q := ⟨by
 unfold vcDrawD;rw [ho];simp only [hD, cond_false, cond_true];unfold StepK;simp only [hr, cond_true, cond_false];exact vcOp_mono (fun v h' L' _ k => ⟨fun _ h => (by cases h), k.run⟩) hd⟩
theorem DoDr.dropT {i : Nat} {σ : List Nat} {dst : Option Tmp} {op : Op} {type : TypeId} {pos : String} {after : Array Edge} {j d : Nat} (h1 : (ops[j]?).bind (·.dst) = some d) (h2 : Fr.get s d = some (.bool true)) (ho : ops[i]? = some { dst := dst, op := op, type := type, pos := pos, after := after, guard := some (j, true) }) (hD : D.contains i = true) (hr : isRd op = false) (hd : vcOp P c s h L L type (fun v h' L' => DoDr P c ops D [] σ (updF s dst v) h' L' Q) op) : DoDr P c ops D Lr (i :: σ) s h L Q := ⟨by
 unfold vcDrawD;rw [ho];simp only [hD, cond_false, cond_true];unfold StepK;simp only [h1, h2];simp only [hr, cond_true, cond_false];exact vcOp_mono (fun v h' L' _ k => ⟨fun _ h => (by cases h), k.run⟩) hd⟩
theorem DoDr.dropF {i : Nat} {σ : List Nat} {dst : Option Tmp} {op : Op} {type : TypeId} {pos : String} {after : Array Edge} {j d : Nat} (h1 : (ops[j]?).bind (·.dst) = some d) (h2 : Fr.get s d = some (.bool false)) (ho : ops[i]? = some { dst := dst, op := op, type := type, pos := pos, after := after, guard := some (j, false) }) (hD : D.contains i = true) (hr : isRd op = false) (hd : vcOp P c s h L L type (fun v h' L' => DoDr P c ops D [] σ (updF s dst v) h' L' Q) op) : DoDr P c ops D Lr (i :: σ) s h L Q := ⟨by
 unfold vcDrawD;rw [ho];simp only [hD, cond_false, cond_true];unfold StepK;simp only [h1, h2];simp only [hr, cond_true, cond_false];exact vcOp_mono (fun v h' L' _ k => ⟨fun _ h => (by cases h), k.run⟩) hd⟩
theorem DoDr.skipT {i : Nat} {σ : List Nat} {dst : Option Tmp} {op : Op} {type : TypeId} {pos : String} {after : Array Edge} {j d : Nat} (h1 : (ops[j]?).bind (·.dst) = some d) (h2 : Fr.get s d = some (.bool false)) (ho : ops[i]? = some { dst := dst, op := op, type := type, pos := pos, after := after, guard := some (j, true) }) (hD : D.contains i = false) (hd : DoDr P c ops D Lr σ (updF s dst undef) h L Q) : DoDr P c ops D Lr (i :: σ) s h L Q := ⟨by
 unfold vcDrawD;rw [ho];simp only [hD, cond_false, cond_true];unfold StepK;simp only [h1, h2]
 try simp only [cond_true, cond_false]
 exact hd.run⟩
theorem DoDr.skipF {i : Nat} {σ : List Nat} {dst : Option Tmp} {op : Op} {type : TypeId} {pos : String} {after : Array Edge} {j d : Nat} (h1 : (ops[j]?).bind (·.dst) = some d) (h2 : Fr.get s d = some (.bool true)) (ho : ops[i]? = some { dst := dst, op := op, type := type, pos := pos, after := after, guard := some (j, false) }) (hD : D.contains i = false) (hd : DoDr P c ops D Lr σ (updF s dst undef) h L Q) : DoDr P c ops D Lr (i :: σ) s h L Q := ⟨by
 unfold vcDrawD;rw [ho];simp only [hD, cond_false, cond_true];unfold StepK;simp only [h1, h2]
 try simp only [cond_true, cond_false]
 exact hd.run⟩
theorem DoDr.skipU {i : Nat} {σ : List Nat} {dst : Option Tmp} {op : Op} {type : TypeId} {pos : String} {after : Array Edge} {j d : Nat} {w : Bool} {vs : Array Value} (h1 : (ops[j]?).bind (·.dst) = some d) (h2 : Fr.get s d = some (.tuple vs)) (ho : ops[i]? = some { dst := dst, op := op, type := type, pos := pos, after := after, guard := some (j, w) }) (hD : D.contains i = false) (hd : DoDr P c ops D Lr σ (updF s dst undef) h L Q) : DoDr P c ops D Lr (i :: σ) s h L Q := ⟨by
 unfold vcDrawD;rw [ho];simp only [hD, cond_false, cond_true];unfold StepK;simp only [h1, h2]
 try simp only [cond_true, cond_false]
 exact hd.run⟩
theorem qe {s' : Fr} (hs : Fr.Sub s' s) (hq : Q s' h L) : DoDr P c ops D Lr [] s h L Q := ⟨⟨s', hs, hq⟩⟩
end
end Go.Brd
namespace Go.Brd
section
variable {P : Program} {c : World} {N : Nat} {s : Fr} {h : GH} {Lr L : Own} {ty : TypeId}
structure DoRg (P : Program) (c : World) (N : Nat) (ops : Array Oper) (s : Fr) (h : GH) (L : Own) (Q : Post) : Prop where
 run : ∀ (a : Act) (w : World) (R : Exit → Act → World → Prop), Agrees N s a → St c h L w → (∀ a' w' s' h' L', Agrees N s' a' → GH.le h h' → St c h' L' w' → Q s' h' L' → R .normal a' w') → wpList P ops R ops.toList a w
theorem DoRg.freeze {ops : Array Oper} {Q : Post} {E sz : Nat} {v : Value} {ls : List (List Value)} {M N' : Own} (sv : OS E sz v ls N') (hsm : ls.length < 2 ^ 62) (hL : L.Perm (N' ++ M)) (hk : ∀ h', GH.le h h' → Sl h' v sz ls → DoRg P c N ops s h' M Q) : DoRg P c N ops s h L Q := by
 obtain ⟨h', hf⟩ := sv.freeze (L := M) (h := h) hsm;refine ⟨fun a w R ha st hR => ?_⟩;obtain ⟨st', hle, hsl⟩ := hf c w (Ghost.perm hL c w st);exact (hk h' hle hsl).run a w R ha st' (fun a' w' s' h2 L2 h1 h3 h4 h5 => hR a' w' s' h2 L2 h1 (GH.le_trans hle h3) h4 h5)
theorem DoRg.freezeBox {ops : Array Oper} {Q : Post} {b : Nat} {o : Obj} {M : Own} (hL : L.Perm ((b, o) :: M)) (hk : ∀ h', GH.le h h' → h' b = some o → DoRg P c N ops s h' M Q) : DoRg P c N ops s h L Q := by
 refine ⟨fun a w R ha st hR => ?_⟩;have st1 := Ghost.perm (h := h) hL c w st;have hb := st1.free;exact (hk (h.ins b o) (GH.le_ins hb) (GH.ins_same h b o)).run a w R ha (Ghost.freeze h M b o c w st1) (fun a' w' s' h2 L2 h1 h3 h4 h5 => hR a' w' s' h2 L2 h1 (GH.le_trans (GH.le_ins hb) h3) h4 h5)
theorem DoRg.drop {ops : Array Oper} {Q : Post} {M : Own} (hs : M.Sublist L) (hk : DoRg P c N ops s h M Q) : DoRg P c N ops s h L Q :=
 ⟨fun a w R ha st hR => hk.run a w R ha (qh hs c w st) hR⟩
def vcT (P : Program) (c : World) (N : Nat) : Code → Fr → GH → Own → (Exit → Post) → Prop
 | .skip, s, h, L, Q => Q .normal s h L
 | .seq a b, s, h, L, Q => vcT P c N a s h L (seqQ (fun s h L => vcT P c N b s h L Q) Q)
 | .cond x a b, s, h, L, Q => with1 s x fun v => match v with
  | .bool true => vcT P c N a s h L Q
  | .bool false => vcT P c N b s h L Q
  | _ => False
 | .block id b, s, h, L, Q => vcT P c N b s h L (blockQ id Q)
 | .loop b, s, h, L, Q => DoLoop P c (fun s h L Q => vcT P c N b s h L Q) s h L Q
 | .exit id, s, h, L, Q => Q (.exit id) s h L
 | .ret, s, h, L, Q => Q .ret s h L
 | .region _ ops false, s, h, L, Q => DoRg P c N ops s h L (Q .normal)
 | .region _ ops true, s, h, L, Q => DoDraw P c N ops s h L (Q .normal)
 | _, _, _, _, _ => False
end
section
variable {P : Program} {c : World} {N : Nat}
theorem vcT_sound : ∀ (k : Code) (Q : Exit → Post) (s : Fr) (h : GH) (L : Own) (a : Act) (w : World), slotsOk N k = true → Agrees N s a → St c h L w → vcT P c N k s h L Q →
 k.wp P (Good N c h Q) a w := by
 intro k
 induction k with
 | skip => intro Q s h L a w _ ha hs hv; exact wp_skip ⟨s, h, L, ha, GH.le_refl h, hs, hv⟩
 | exit id => intro Q s h L a w _ ha hs hv; exact wp_exit ⟨s, h, L, ha, GH.le_refl h, hs, hv⟩
 | ret => intro Q s h L a w _ ha hs hv; exact wp_ret ⟨s, h, L, ha, GH.le_refl h, hs, hv⟩
 | region id ops draw =>
  intro Q s h L a w hok ha hs hv;cases draw with
  | false =>
   refine wp_region_list (hv.run a w _ ha ⟨hs.os, hs.tape, hs.output, hs.gh, hs.own, hs.sep, hs.nd, hs.dr⟩ ?_);intro a' w' s' h' L' ha' hle hs' hq;exact ⟨s', h', L', ha', hle, hs', hq⟩
  | true =>
   refine wp_region_draw fun t => hv.run a _ t _ ha ⟨hs.os, hs.tape, hs.output, hs.gh, hs.own, hs.sep, hs.nd, Nat.le_succ_of_le hs.dr⟩ ?_
   intro a' w' s' h' L' ha' hle hs' hq;exact ⟨s', h', L', ha', hle, hs', hq⟩
 | seq x y ihx ihy =>
  intro Q s h L a w hok ha hs hv;simp only [slotsOk, Bool.and_eq_true] at hok;refine wp_seq (Code.wp_mono ?_ (ihx _ s h L a w hok.1 ha hs hv));rintro e a' w' ⟨s', h', L', ha', hle, hs', hq⟩;cases e with
  | normal =>
   refine Code.wp_mono ?_ (ihy Q s' h' L' a' w' hok.2 ha' hs' hq);rintro e a'' w'' ⟨s2, h2, L2, ha2, hle2, hs2, hq2⟩;exact ⟨s2, h2, L2, ha2, GH.le_trans hle hle2, hs2, hq2⟩
  | _ => exact ⟨s', h', L', ha', hle, hs', hq⟩
 | cond x y z ihy ihz =>
  intro Q s h L a w hok ha hs hv;simp only [slotsOk, Bool.and_eq_true] at hok;have := with1_eval ha hv;cases hx : a.eval x with
  | bool t =>
   rw [hx] at this;cases t with
   | true => exact wp_cond_true hx (ihy Q s h L a w hok.1 ha hs this)
   | false => exact wp_cond_false hx (ihz Q s h L a w hok.2 ha hs this)
  | _ => rw [hx] at this; exact this.elim
 | block id b ih =>
  intro Q s h L a w hok ha hs hv;refine wp_block (Code.wp_mono ?_ (ih _ s h L a w hok ha hs hv));rintro e a' w' ⟨s', h', L', ha', hle, hs', hq⟩;cases e with
  | exit i =>
   unfold Exit.inBlock;by_cases hi : i = id
   · subst hi
     simp only [if_true];refine ⟨s', h', L', ha', hle, hs', ?_⟩
     simpa [blockQ] using hq
   · simp only [hi, if_false]
     refine ⟨s', h', L', ha', hle, hs', ?_⟩
     have hbq : Nat.beq i id = false := by
      cases hb : Nat.beq i id with
      | true => exact (hi (Nat.eq_of_beq_eq_true hb)).elim
      | false => rfl
     simpa [blockQ, hbq] using hq
  | _ => exact ⟨s', h', L', ha', hle, hs', hq⟩
 | loop b ih =>
  intro Q s h L a w hok ha hs hv;obtain ⟨I, ⟨n, s0, h0, L0, hg, hle, hsub, hI⟩, hround⟩ := hv.ex
  have key : ∀ n a w, (∃ s1 h1 L1, Agrees N s1 a ∧ GH.le h h1 ∧ St c h1 L1 w ∧ I n s1 h1 L1) →
   b.wp P (fun e a' w' => match e with
    | .normal => ∃ m, m < n ∧ ∃ s1 h1 L1, Agrees N s1 a' ∧ GH.le h h1 ∧ St c h1 L1 w' ∧ I m s1 h1 L1
    | e => Good N c h Q e a' w') a w := by
   rintro n a w ⟨s1, h1, L1, ha1, hle1, hs1, hI1⟩;refine Code.wp_mono ?_ (ih _ s1 h1 L1 a w hok ha1 hs1 (hround n s1 h1 L1 hle1 hI1));rintro e a' w' ⟨s', h', L', ha', hle', hs', hq⟩;cases e with
   | normal =>
    obtain ⟨m, s2, h2, L2, hm, hg2, hle2, hsub2, hI2⟩ := hq;exact ⟨m, hm, s2, h2, L2, ha'.sub hsub2, GH.le_trans hle1 (GH.le_trans hle' hle2), hg2 c w' hs', hI2⟩
   | _ => exact ⟨s', h', L', ha', GH.le_trans hle1 hle', hs', hq⟩
  exact wp_loop_exT (P := P) (c := b) (Q := Good N c h Q) (fun n a w => ∃ s1 h1 L1, Agrees N s1 a ∧ GH.le h h1 ∧ St c h1 L1 w ∧ I n s1 h1 L1) n ⟨s0, h0, L0, ha.sub hsub, hle, hg c w hs, hI⟩ key
 | label l => intro Q s h L a w _ _ _ hv; exact hv.elim
 | goto l => intro Q s h L a w _ _ _ hv; exact hv.elim
 | scope b _ => intro Q s h L a w _ _ _ hv; exact hv.elim
 | refuse why => intro Q s h L a w _ _ _ hv; exact hv.elim
 | rangeFunc f ps x b _ _ => intro Q s h L a w _ _ _ hv; exact hv.elim
where
 wp_loop_exT {P : Program} {c : Code} {Q : Exit → Act → World → Prop} (J : Nat → Act → World → Prop) (n : Nat) {a : Act} {w : World} (h₀ : J n a w)
  (round : ∀ n a w, J n a w → c.wp P (fun e a' w' => match e with
   | .normal => ∃ m, m < n ∧ J m a' w'
   | e => Q e a' w') a w) : (Code.loop c).wp P Q a w := by
  intro b k cs
  have key : ∀ n a w, J n a w → ∃ e a' w', Q e a' w' ∧ Arrives P (lone (b.at a (.code c :: .inLoop c :: k)) cs w) b k cs e a' w' := by
   intro n
   induction n using Nat.strongRecOn with
   | _ n ih =>
    intro a w hI;obtain ⟨e, a₁, w₁, hq, harr⟩ := round n a w hI b (.inLoop c :: k) cs;cases e with
    | normal =>
     obtain ⟨m, hlt, hI₁⟩ := hq;obtain ⟨e₂, a₂, w₂, hq₂, harr₂⟩ := ih m hlt a₁ w₁ hI₁;exact ⟨e₂, a₂, w₂, hq₂, .of_steps (Steps.trans harr (.one step_inLoop)) harr₂⟩
    | exit id => exact ⟨_, a₁, w₁, hq, .pass (x := .inLoop c) rfl (fun _ _ => .inl (by simp)) harr⟩
    | goto l => exact ⟨_, a₁, w₁, hq, .pass (x := .inLoop c) rfl (fun _ _ => .inl (by simp)) harr⟩
    | ret => exact ⟨_, a₁, w₁, hq, .pass (x := .inLoop c) rfl (fun _ _ => .inl (by simp)) harr⟩
    | panic ch => exact ⟨_, a₁, w₁, hq, .pass (x := .inLoop c) rfl (fun _ _ => .inl (by simp)) harr⟩
    | outgrown => exact ⟨_, a₁, w₁, hq, .pass (x := .inLoop c) rfl (fun _ _ => .inl (by simp)) harr⟩
  obtain ⟨e, a', w', hq, harr⟩ := key n a w h₀;exact ⟨e, a', w', hq, .of_steps (.one step_loop) harr⟩
theorem Fun.of_vcT {f : FuncId} {fn : Func} {k : Code} {args : List Value} {h : GH} {L : Own} {K : Kont} (hf : P.funcs[f]? = some fn) (hb : fn.body = some k) (hN : fn.ntmps = N) (hlen : args.length ≤ N)
 (hnm : (fn.name == "runtime.NumGoroutine") = false) (hok : slotsOk N k = true) (hv : vcT P c N k (initFr 0 args) h L (endQ P c fn.results.toList K)) : Fun P c f args.toArray h L K := by
 refine ⟨by simp [Go.Brd.plain, hf, hb, hnm], fun w hs => ?_⟩;refine calls_of_wp hf hb (Code.wp_mono ?_ (vcT_sound k _ (initFr 0 args) h L _ w hok ?_ hs hv))
 · rintro e a' w' ⟨s', h', L', ha', hle, hs', hq⟩
   have fin : DoRet fn.results.toList s' h' L' P c K → a'.defers = [] ∧ ∃ v, (results fn a'.tmps).run P w' = .ok v w' ∧ ∃ v' h'' L'', Ending.returned v = Ending.returned v' ∧ GH.le h h'' ∧ St c h'' L'' w' ∧ K v' h'' L'' := by
    intro hd;obtain ⟨v, h2, L2, hr, hle2, hs2, hk⟩ := hd.run a'.tmps w' fn rfl ha'.2.2 hs';exact ⟨ha'.2.1, v, hr, v, h2, L2, rfl, GH.le_trans hle hle2, hs2, hk⟩
   cases e with
   | normal => exact fin hq
   | ret => exact fin hq
   | _ => exact hq.elim
 · refine ⟨?_, rfl, ?_⟩
   · simp only [Array.size_append, List.size_toArray, Array.size_replicate, hN]; omega
   · intro i v e
     have this : args[i]? = some v := (initFr_get args 0 i v e).2
     have hi : i < args.length := by
      rcases Nat.lt_or_ge i args.length with h | h
      · exact h
      · rw [List.getElem?_eq_none h] at this; cases this
     have h2 : (args.toArray ++ Array.replicate (fn.ntmps - args.toArray.size) undef)[i]? = some v := by
      rw [Array.getElem?_append_left (by simpa using hi)]; simpa using this
     rw [Array.getD_eq_getD_getElem?, h2]; rfl
end
theorem qo {P : Program} {c : World} {N : Nat} {ops : Array Oper} {s : Fr} {h : GH} {L : Own} {Q : Post} (hok : ops.toList.all (dstOk N) = true) (hd : DoOps P c ops ops.toList s h L Q) : DoRg P c N ops s h L Q :=
 ⟨fun a w R ha st hR => vcOps_sound hok ops.toList hok s h L a w ha st hd.run hR⟩
end Go.Brd
namespace Go.Brd
namespace D5
def pairOk2 (ops : Array Oper) (i j : Nat) : Bool :=
 !Nat.beq i j && match ops[i]?, ops[j]? with
  | some x, some _ => !depsHas x j
  | _, _ => false
def pairsOk2 (ops : Array Oper) (M : List Nat) : List Nat → Bool
 | [] => true
 | i :: r => r.all (pairOk2 ops i) && pairsOk2 ops M r
def pairOk3 (ops : Array Oper) (M : List Nat) (i j : Nat) (r : List Nat) : Bool := match ops[i]?, ops[j]? with
 | some x, some y => Nat.testBit (M.getD j 0) i || (isRd x.op && apart ops x y) || (!isRd x.op && !isRd y.op) || (!isRd x.op && r.any fun z => isEff ops z && Nat.testBit (M.getD j 0) z)
 | _, _ => false
def pairsOk3 (ops : Array Oper) (M : List Nat) : List Nat → Bool
 | [] => true
 | i :: r => r.all (fun j => pairOk3 ops M i j r) && pairsOk3 ops M r
def orderOk (ops : Array Oper) (M : List Nat) (σ : List Nat) : Bool :=
 Nat.beq σ.length ops.size && σ.all (fun i => Nat.blt i ops.size) && (List.range ops.size).all (fun i => σ.contains i) && pairsOk2 ops M σ && pairsOk3 ops M σ
def drawsOk (N : Nat) (ops : Array Oper) (σ0 : List Nat) (σs : List (List Nat)) : Bool :=
 ops.toList.all (dstOk N) && masksOk (masksGo ops.toList []) 0 ops.toList && (σ0 :: σs).all (orderOk ops (masksGo ops.toList [])) &&
  (exts (masksGo ops.toList []) (σ0.filter (isEff ops)).length (σ0.filter (isEff ops))).all (fun e => (σ0 :: σs).any fun σ => (σ.filter (isEff ops)) == e)
section
variable {P : Program} {c : World} {N : Nat} {ops : Array Oper} {Lr : Own}
theorem pairsOk2_append {M : List Nat} : ∀ {A B : List Nat}, pairsOk2 ops M (A ++ B) = true → (∀ i ∈ A, ∀ j ∈ B, pairOk2 ops i j = true) ∧ pairsOk2 ops M B = true
 | [], _, h => ⟨fun _ hi => by simp at hi, h⟩
 | i :: A, B, h => by
  simp only [List.cons_append, pairsOk2, Bool.and_eq_true] at h;obtain ⟨h1, h2⟩ := pairsOk2_append h.2;refine ⟨fun x hx j hj => ?_, h2⟩;rcases List.mem_cons.1 hx with rfl | hx
  · exact List.all_eq_true.1 h.1 j (by simp [hj])
  · exact h1 x hx j hj
theorem pairsOk2_drop {M : List Nat} : ∀ {A B : List Nat} {i : Nat}, pairsOk2 ops M (A ++ i :: B) = true → pairsOk2 ops M (A ++ B) = true
 | [], _, _, h => by simp only [List.nil_append, pairsOk2, Bool.and_eq_true] at h; exact h.2
 | x :: A, B, i, h => by
  simp only [List.cons_append, pairsOk2, Bool.and_eq_true] at h ⊢;refine ⟨List.all_eq_true.2 fun j hj => List.all_eq_true.1 h.1 j ?_, pairsOk2_drop h.2⟩;rcases List.mem_append.1 hj with hj | hj <;> simp [hj]
theorem pairsOk3_append {M : List Nat} : ∀ {A B : List Nat}, pairsOk3 ops M (A ++ B) = true → (∀ i ∈ A, ∀ j ∈ B, ∃ r, (∀ z ∈ r, z ∈ A ++ B) ∧ pairOk3 ops M i j r = true) ∧ pairsOk3 ops M B = true
 | [], _, h => ⟨fun _ hi => by simp at hi, h⟩
 | i :: A, B, h => by
  simp only [List.cons_append, pairsOk3, Bool.and_eq_true] at h;obtain ⟨h1, h2⟩ := pairsOk3_append h.2;refine ⟨fun x hx j hj => ?_, h2⟩;rcases List.mem_cons.1 hx with rfl | hx
  · exact ⟨A ++ B, fun z hz => List.mem_cons_of_mem _ hz, List.all_eq_true.1 h.1 j (by simp [hj])⟩
  · obtain ⟨r, hr, hp⟩ := h1 x hx j hj
    exact ⟨r, fun z hz => List.mem_cons_of_mem _ (hr z hz), hp⟩
theorem pairOk3_drop {M : List Nat} {x j i : Nat} {A B : List Nat} (h : pairOk3 ops M x j (A ++ i :: B) = true) (hi : isEff ops i = false ∨ isEff ops x = false) : pairOk3 ops M x j (A ++ B) = true := by
 unfold pairOk3 at h ⊢;cases hx : ops[x]? with
 | none => rw [hx] at h; simp at h
 | some ox =>
  cases hj : ops[j]? with
  | none => rw [hx, hj] at h; simp at h
  | some oj =>
   rw [hx, hj] at h;simp only [Bool.or_eq_true, Bool.and_eq_true, List.any_eq_true] at h ⊢;rcases h with (h | h) | h
   · exact .inl (.inl h)
   · exact .inl (.inr h)
   · obtain ⟨h1, z, hz, h2, h3⟩ := h
     refine .inr ⟨h1, z, ?_, h2, h3⟩;rcases List.mem_append.1 hz with hz | hz
     · exact List.mem_append_left _ hz
     · rcases List.mem_cons.1 hz with rfl | hz
       · exfalso
         rcases hi with hi | hi
         · rw [hi] at h2; cases h2
         · unfold isEff at hi; rw [hx] at hi; simp only at hi; rw [hi] at h1; cases h1
       · exact List.mem_append_right _ hz
theorem pairsOk3_drop {M : List Nat} : ∀ {A B : List Nat} {i : Nat}, pairsOk3 ops M (A ++ i :: B) = true → (isEff ops i = false ∨ ∀ x ∈ A, isEff ops x = false) → pairsOk3 ops M (A ++ B) = true
 | [], _, _, h, _ => by simp only [List.nil_append, pairsOk3, Bool.and_eq_true] at h; exact h.2
 | x :: A, B, i, h, hi => by
  simp only [List.cons_append, pairsOk3, Bool.and_eq_true] at h ⊢;refine ⟨List.all_eq_true.2 fun j hj => pairOk3_drop (i := i) (List.all_eq_true.1 h.1 j ?_) ?_, pairsOk3_drop h.2 ?_⟩
  · rcases List.mem_append.1 hj with hj | hj <;> simp [hj]
  · rcases hi with hi | hi
    · exact .inl hi
    · exact .inr (hi x (by simp))
  · rcases hi with hi | hi
    · exact .inl hi
    · exact .inr fun y hy => hi y (by simp [hy])
theorem pairsOk2_nodup {M : List Nat} : ∀ {l : List Nat}, pairsOk2 ops M l = true → l.Nodup
 | [], _ => List.nodup_nil
 | i :: r, h => by
  simp only [pairsOk2, Bool.and_eq_true] at h;refine List.nodup_cons.2 ⟨fun hi => ?_, pairsOk2_nodup h.2⟩;have := List.all_eq_true.1 h.1 i hi;simp [pairOk2] at this
structure Go (ops : Array Oper) (M : List Nat) (σ : List Nat) (listed : Array Bool) : Prop where
 pairs : pairsOk2 ops M σ = true
 size : listed.size = ops.size
 un : ∀ i, i < ops.size → (listed.getD i true = false ↔ i ∈ σ)
 lt : ∀ i ∈ σ, i < ops.size
 cl : ∀ j o, ops[j]? = some o → listed.getD j true = true → ∀ e ∈ o.after, binding e = true → listed.getD e.on false = true
theorem getDs (l : Array Bool) (i : Nat) (b b' : Bool) (hi : i < l.size) : l.getD i b = l.getD i b' := by simp [Array.getD, hi]
theorem Go.first {M : List Nat} (hm : masksOk M 0 ops.toList = true) {i : Nat} {r : List Nat} {listed : Array Bool} (g : Go ops M (i :: r) listed) : i ∈ Region.ready .any ops listed := by
 obtain ⟨hp, hsz, hl, hlt, hcl⟩ := g;have hin := hlt i (by simp);obtain ⟨o, ho⟩ : ∃ o, ops[i]? = some o := ⟨ops[i], Array.getElem?_eq_getElem _⟩;unfold Region.ready;refine List.mem_filter.2 ⟨by simpa using hin, ?_⟩;simp only [Bool.and_eq_true, Bool.not_eq_true'];refine ⟨(hl i hin).2 (by simp), ?_⟩;simp only [ho, Option.map_some, Option.getD_some];rw [Array.all_eq_true'];intro e he;cases hb : binding e with
 | false => unfold binding at hb; simp [hb]
 | true =>
  have ho' : ops.toList[i]? = some o := by simpa using ho
  have hlt2 := (masksOk_at hm ho').2 e he hb;simp only [Nat.zero_add] at hlt2;cases hld : listed.getD e.on true with
  | true => rw [getDs _ _ _ true (by omega)]; simp [hld]
  | false =>
   exfalso;have hmem := (hl e.on (by omega)).1 hld;rcases List.mem_cons.1 hmem with h3 | h3
   · omega
   · simp only [pairsOk2, Bool.and_eq_true] at hp
     have := List.all_eq_true.1 hp.1 e.on h3;obtain ⟨o2, ho2⟩ : ∃ o2, ops[e.on]? = some o2 := ⟨ops[e.on]'(by omega), Array.getElem?_eq_getElem _⟩;simp only [pairOk2, ho, ho2, Bool.and_eq_true, Bool.not_eq_true'] at this;have hd : depsHas o e.on = true := List.any_eq_true.2 ⟨e, Array.mem_toList_iff.2 he, by simp [hb]⟩;rw [hd] at this;exact absurd this.2 (by simp)
theorem Go.pick {M : List Nat} (hm : masksOk M 0 ops.toList = true) {σ : List Nat} {listed : Array Bool} (g : Go ops M σ listed) {i : Nat} (hi : i ∈ Region.ready .any ops listed) :
 ∃ o A B, ops[i]? = some o ∧ σ = A ++ i :: B ∧ (∀ x ∈ σ, Nat.testBit (M.getD i 0) x = false) ∧ Go ops M (A ++ B) (listed.setIfInBounds i true) := by
 obtain ⟨hp, hsz, hl, hlt, hcl⟩ := g;unfold Region.ready at hi;obtain ⟨hi1, hi2⟩ := List.mem_filter.1 hi;have hin : i < ops.size := by simpa using hi1
 obtain ⟨o, ho⟩ : ∃ o, ops[i]? = some o := ⟨ops[i], Array.getElem?_eq_getElem _⟩;simp only [Bool.and_eq_true, Bool.not_eq_true', ho, Option.map_some, Option.getD_some] at hi2;obtain ⟨hi2, hi3⟩ := hi2
 have hdeps : ∀ e ∈ o.after, binding e = true → listed.getD e.on false = true := fun e he hb => by
  have := (Array.all_eq_true'.1 hi3) e he;unfold binding at hb
  simpa [hb] using this
 have hmem := (hl i hin).1 hi2;obtain ⟨A, B, rfl⟩ := List.append_of_mem hmem;refine ⟨o, A, B, ho, rfl, ?_, ?_⟩
 · intro x hx
   cases hb : Nat.testBit (M.getD i 0) x with
   | false => rfl
   | true =>
    exfalso;have hxn := hlt x hx
    have hcl' : ∀ j o, ops[j]? = some o → (listed.getD j false = true) → ∀ e ∈ o.after, binding e = true → listed.getD e.on false = true := fun j o' ho' hj => hcl j o' ho' (by
     have : j < ops.size := (Array.getElem?_eq_some_iff.1 ho').1;rw [getDs _ _ _ false (by omega)]; exact hj)
    have := mask_closed (listed := fun j => listed.getD j false = true) hm hcl' i o ho hdeps x hb;have h2 := (hl x hxn).2 hx;rw [getDs _ _ true false (by omega)] at h2;rw [h2] at this; cases this
 · have hnd := pairsOk2_nodup hp
   refine ⟨pairsOk2_drop hp, by simpa using hsz, ?_, fun x hx => hlt x (by rcases List.mem_append.1 hx with h | h <;> simp [h]), ?_⟩
   · intro x hx
     have hnot : i ∉ A ++ B := (List.nodup_cons.1 ((List.perm_middle (a := i) (l₁ := A) (l₂ := B)).nodup_iff.1 hnd)).1;by_cases hxi : x = i
     · subst hxi
       have : (listed.setIfInBounds x true).getD x true = true := by simp [Array.getD]
       rw [this];exact ⟨fun h => (by cases h), fun h => (hnot h).elim⟩
     · have : (listed.setIfInBounds i true).getD x true = listed.getD x true := by
        simp only [Array.getD_eq_getD_getElem?, Array.getElem?_setIfInBounds, if_neg (Ne.symm hxi)]
       rw [this, hl x hx];constructor
       · intro h
         rcases List.mem_append.1 h with h | h
         · simp [h]
         · rcases List.mem_cons.1 h with h | h
           · exact (hxi h).elim
           · simp [h]
       · intro h
         rcases List.mem_append.1 h with h | h <;> simp [h]
   · intro j oj hoj hj e he hb
     have mono : listed.getD e.on false = true → (listed.setIfInBounds i true).getD e.on false = true := fun h => by
      by_cases hei : e.on = i
      · subst hei
        have : e.on < listed.size := by omega
        simp [Array.getD, this]
      · simp only [Array.getD_eq_getD_getElem?, Array.getElem?_setIfInBounds, if_neg (Ne.symm hei)] at h ⊢; exact h
     by_cases hji : j = i
     · subst hji
       rw [ho] at hoj; cases hoj;exact mono (hdeps e he hb)
     · have : (listed.setIfInBounds i true).getD j true = listed.getD j true := by
        simp only [Array.getD_eq_getD_getElem?, Array.getElem?_setIfInBounds, if_neg (Ne.symm hji)]
       rw [this] at hj;exact mono (hcl j oj hoj hj e he hb)
theorem lin_step {M : List Nat} (hm : masksOk M 0 ops.toList = true) {σ : List Nat} {listed : Array Bool} (g : Go ops M σ listed) {fuel t : Nat} (hf : σ.length = fuel + 1) :
 ∃ i ∈ Region.ready .any ops listed, ∃ t', Region.linearise.go .any ops (fuel + 1) t listed [] = i :: Region.linearise.go .any ops fuel t' (listed.setIfInBounds i true) [] := by
 cases σ with
 | nil => simp at hf
 | cons x r =>
  have hx := g.first hm
  have hne : 0 < (Region.ready .any ops listed).length := List.length_pos_of_mem hx;have hlt : t % (Region.ready .any ops listed).length < (Region.ready .any ops listed).length := Nat.mod_lt _ hne;refine ⟨(Region.ready .any ops listed)[t % (Region.ready .any ops listed).length], List.getElem_mem _, t / (Region.ready .any ops listed).length, ?_⟩;have hi : (Region.ready .any ops listed)[t % (Region.ready .any ops listed).length]? = some (Region.ready .any ops listed)[t % (Region.ready .any ops listed).length] := List.getElem?_eq_getElem hlt
  have e1 : Region.linearise.go .any ops (fuel + 1) t listed [] = (match (Region.ready .any ops listed)[t % (Region.ready .any ops listed).length]? with
   | some i => Region.linearise.go .any ops fuel (t / (Region.ready .any ops listed).length) (listed.setIfInBounds i true) [i]
   | none => [].reverse) := rfl
  rw [e1, hi];simp only;rw [linearise_go_acc];rfl
theorem lin_exts {M : List Nat} (hm : masksOk M 0 ops.toList = true) : ∀ (fuel t : Nat) (σ : List Nat) (listed : Array Bool), σ.length = fuel → Go ops M σ listed →
 (Region.linearise.go .any ops fuel t listed []).filter (isEff ops) ∈ exts M (σ.filter (isEff ops)).length (σ.filter (isEff ops))
 | 0, t, σ, listed, hf, g => by
  have hσ : σ = [] := List.length_eq_zero_iff.1 hf;subst hσ;simp [Region.linearise.go, exts]
 | fuel + 1, t, σ, listed, hf, g => by
  obtain ⟨i, hi, t', e⟩ := lin_step (t := t) hm g hf;obtain ⟨o, A, B, ho, rfl, hmask, g'⟩ := g.pick hm hi;rw [e];have hlen : (A ++ B).length = fuel := by simp at hf ⊢; omega
  have ih := lin_exts hm fuel t' (A ++ B) _ hlen g';have hnd := pairsOk2_nodup g.pairs;cases hE : isEff ops i with
  | false =>
   rw [List.filter_cons_of_neg (by simp [hE])];have : (A ++ i :: B).filter (isEff ops) = (A ++ B).filter (isEff ops) := by simp [List.filter_append, List.filter_cons, hE]
   rw [this]; exact ih
  | true =>
   rw [List.filter_cons_of_pos (by simp [hE])];have h1 : (A ++ i :: B).filter (isEff ops) = A.filter (isEff ops) ++ i :: B.filter (isEff ops) := by simp [List.filter_append, List.filter_cons, hE]
   have hnA : i ∉ A.filter (isEff ops) := fun h => by
    have h2 := (List.mem_filter.1 h).1;have := (List.nodup_cons.1 ((List.perm_middle (a := i) (l₁ := A) (l₂ := B)).nodup_iff.1 hnd)).1;exact this (by simp [h2])
   have h3 : ((A ++ i :: B).filter (isEff ops)).erase i = (A ++ B).filter (isEff ops) := by
    rw [h1, List.erase_append_right _ hnA, List.erase_cons_head, List.filter_append]
   have hl : ((A ++ i :: B).filter (isEff ops)).length = ((A ++ B).filter (isEff ops)).length + 1 := by
    rw [h1, List.filter_append]; simp; omega
   rw [hl];unfold exts;refine List.mem_flatMap.2 ⟨i, by rw [h1]; simp, ?_⟩
   have hall : ((A ++ i :: B).filter (isEff ops)).all (fun x => !Nat.testBit (M.getD i 0) x) = true := List.all_eq_true.2 fun x hx => by
    rw [hmask x (List.mem_filter.1 hx).1]; rfl
   rw [hall, h3];exact List.mem_map.2 ⟨_, ih, rfl⟩
theorem draw_fixed {M : List Nat} {h0 : GH} {Q : Post} {R : Exit → Act → World → Prop} (hall : ops.toList.all (dstOk N) = true) (hm : masksOk M 0 ops.toList = true)
 (hR : ∀ a' w' s' h' L', Agrees N s' a' → St c h' L' w' → Q s' h' L' → GH.le h0 h' → R .normal a' w') :
 ∀ (fuel t : Nat) (σ : List Nat) (listed : Array Bool) (s : Fr) (h : GH) (L : Own) (a : Act) (w : World), σ.length = fuel → Go ops M σ listed → pairsOk3 ops M σ = true →
  σ.filter (isEff ops) = (Region.linearise.go .any ops fuel t listed []).filter (isEff ops) → Agrees N s a → St c h L w → (∀ e ∈ Lr, e ∈ L) → GH.le h0 h → vcDraw P c ops Lr σ s h L Q → wpOps P ops R (Region.linearise.go .any ops fuel t listed []) a w
 | 0, t, σ, listed, s, h, L, a, w, hf, g, hp3, hE, ha, hs, hL, hle, hv => by
  have hσ : σ = [] := List.length_eq_zero_iff.1 hf;subst hσ;obtain ⟨s', h1, h2⟩ := hv;simp only [Region.linearise.go, List.reverse_nil, wpOps];exact hR a w s' h L (ha.sub h1) hs h2 hle
 | fuel + 1, t, σ, listed, s, h, L, a, w, hf, g, hp3, hE, ha, hs, hL, hle, hv => by
  obtain ⟨i, hi, t', e⟩ := lin_step (t := t) hm g hf;have hnd := pairsOk2_nodup g.pairs;have hpr := g.pairs;have hgl := g.lt;obtain ⟨o, A, B, ho, rfl, hmask, g'⟩ := g.pick hm hi;have hnAB : i ∉ A ++ B := (List.nodup_cons.1 ((List.perm_middle (a := i) (l₁ := A) (l₂ := B)).nodup_iff.1 hnd)).1;rw [e] at hE ⊢
  have hA : ∀ x ∈ A, ∃ ox, ops[x]? = some ox ∧ isRd ox.op = true ∧ apart ops ox o = true := by
   intro x hx;have hxn := hgl x (by simp [hx]);obtain ⟨ox, hox⟩ : ∃ o, ops[x]? = some o := ⟨ops[x], Array.getElem?_eq_getElem _⟩;obtain ⟨r, hr, hp2⟩ := (pairsOk3_append hp3).1 x hx i (by simp);simp only [pairOk3, hox, ho, Bool.and_eq_true, Bool.or_eq_true, List.any_eq_true] at hp2;rcases hp2 with ((hb | hb) | hb) | ⟨_, z, hz, _, hb⟩
   · rw [hmask x (by simp [hx])] at hb; cases hb
   · exact ⟨ox, hox, hb.1, hb.2⟩
   · exfalso
     have he1 : isEff ops i = true := by unfold isEff; rw [ho]; exact hb.2
     have he2 : isEff ops x = true := by unfold isEff; rw [hox]; exact hb.1
     rw [List.filter_cons_of_pos (by simp [he1]), List.filter_append] at hE;cases hfa : A.filter (isEff ops) with
     | nil => have : x ∈ A.filter (isEff ops) := List.mem_filter.2 ⟨hx, he2⟩; rw [hfa] at this; simp at this
     | cons y ys =>
      rw [hfa] at hE;simp only [List.cons_append, List.cons.injEq] at hE;have hy : y ∈ A := (List.mem_filter.1 (show y ∈ A.filter (isEff ops) by rw [hfa]; simp)).1;rw [hE.1] at hy;exact hnAB (by simp [hy])
   · rw [hmask z (hr z hz)] at hb; cases hb
  have hv2 := vcDraw_front ho hA hL hv;unfold vcDraw at hv2;rw [ho] at hv2;have hdo : dstOk N o = true := List.all_eq_true.1 hall o (by rw [Array.mem_toList_iff]; exact Array.mem_of_getElem? ho)
  have hE2 : (A ++ B).filter (isEff ops) = (Region.linearise.go .any ops fuel t' (listed.setIfInBounds i true) []).filter (isEff ops) := by
   cases he1 : isEff ops i with
   | false =>
    rw [List.filter_cons_of_neg (by simp [he1]), List.filter_append, List.filter_cons_of_neg (by simp [he1])] at hE;rw [List.filter_append]; exact hE
   | true =>
    rw [List.filter_cons_of_pos (by simp [he1]), List.filter_append, List.filter_cons_of_pos (by simp [he1])] at hE
    have hfa : A.filter (isEff ops) = [] := by
     cases hfa : A.filter (isEff ops) with
     | nil => rfl
     | cons y ys =>
      rw [hfa] at hE;simp only [List.cons_append, List.cons.injEq] at hE;have hy : y ∈ A := (List.mem_filter.1 (show y ∈ A.filter (isEff ops) by rw [hfa]; simp)).1;rw [hE.1] at hy;exact (hnAB (by simp [hy])).elim
    rw [hfa] at hE;simp only [List.nil_append, List.cons.injEq, true_and] at hE;rw [List.filter_append, hfa, List.nil_append]; exact hE
  have hp3' : pairsOk3 ops M (A ++ B) = true := pairsOk3_drop hp3 (.inr fun x hx => by
   obtain ⟨ox, hox, hb, _⟩ := hA x hx;unfold isEff; rw [hox]; simp [hb])
  exact wpOp_of_step (R := R) ho hall ha hs hL (fun v w' h' L' hle' hs' hL' hk => draw_fixed hall hm hR fuel t' (A ++ B) _ (updF s o.dst v) h' L' (a.put o.dst v) w' (by simp at hf ⊢; omega) g' hp3' hE2 (ha.upd hdo) hs' hL' (GH.le_trans hle hle') hk) hv2
theorem intros3 (hmix : P.follows .mixedOrders = true) (σ0 : List Nat) (σs : List (List Nat)) (Lr : Own) {s : Fr} {h : GH} {L : Own} {Q : Post} (hok : drawsOk N ops σ0 σs = true) (hL : ∀ e ∈ Lr, e ∈ L) (hv : ∀ σ ∈ σ0 :: σs, vcDraw P c ops Lr σ s h L Q) : DoDraw P c N ops s h L Q := by
 simp only [drawsOk, Bool.and_eq_true] at hok;obtain ⟨⟨⟨hall, hm⟩, hord⟩, hcov⟩ := hok;refine ⟨fun a w t R ha hs hR => ?_⟩;simp only [Region.schedule, hmix, Bool.true_or, if_true]
 have mk : ∀ σ ∈ σ0 :: σs, (σ.length = ops.size ∧ Go ops (masksGo ops.toList []) σ (Array.replicate ops.size false)) ∧ pairsOk3 ops (masksGo ops.toList []) σ = true := fun σ hσ => by
  have h1 := List.all_eq_true.1 hord σ hσ;simp only [orderOk, Bool.and_eq_true] at h1;obtain ⟨⟨⟨⟨hlen, hlt⟩, hc⟩, hp⟩, hp3⟩ := h1;refine ⟨⟨Nat.eq_of_beq_eq_true hlen, hp, by simp, ?_, fun i hi => Nat.blt_eq.mp (List.all_eq_true.1 hlt i hi), ?_⟩, hp3⟩
  · intro i hi
    have : σ.contains i = true := List.all_eq_true.1 hc i (by simpa using hi);simp only [Array.getD, Array.size_replicate, hi, dite_true]
    simpa using this
  · intro j o ho hj
    have hjn := (Array.getElem?_eq_some_iff.1 ho).1;simp [Array.getD, hjn] at hj
 obtain ⟨⟨hl0, g0⟩, _⟩ := mk σ0 (by simp);have hex := lin_exts hm ops.size t σ0 _ hl0 g0;have h1 := List.all_eq_true.1 hcov _ hex;obtain ⟨σ, hσ, he⟩ := List.any_eq_true.1 h1;obtain ⟨⟨hl, g⟩, hp3⟩ := mk σ hσ;exact draw_fixed (h0 := h) (Q := Q) (Lr := Lr) (c := c) hall hm (fun a' w' s' h' L' h1 h2 h3 h4 => hR a' w' s' h' L' h1 h4 h2 h3) ops.size t σ _ s h L a w hl g hp3 (eq_of_beq he) ha hs hL (GH.le_refl h) (hv σ hσ)
end
end D5
end Go.Brd
namespace Go.Brd
namespace D6
def pairOk2 (ops : Array Oper) (i j : Nat) : Bool :=
 !Nat.beq i j && match ops[i]?, ops[j]? with
  | some x, some _ => !depsHas x j
  | _, _ => false
def pairsOk2 (ops : Array Oper) (M : List Nat) : List Nat → Bool
 | [] => true
 | i :: r => r.all (pairOk2 ops i) && pairsOk2 ops M r
def pairOk3 (D : List Nat) (ops : Array Oper) (M : List Nat) (i j : Nat) (r : List Nat) : Bool := match ops[i]?, ops[j]? with
 | some x, some y => Nat.testBit (M.getD j 0) i || (isRd x.op && apart ops x y && !D.contains i && (!D.contains j || isPureOp x.op)) || (!isRd x.op && !isRd y.op) || (!isRd x.op && r.any fun z => isEff ops z && Nat.testBit (M.getD j 0) z)
 | _, _ => false
def pairsOk3 (D : List Nat) (ops : Array Oper) (M : List Nat) : List Nat → Bool
 | [] => true
 | i :: r => r.all (fun j => pairOk3 D ops M i j r) && pairsOk3 D ops M r
def orderOk (D : List Nat) (ops : Array Oper) (M : List Nat) (σ : List Nat) : Bool :=
 Nat.beq σ.length ops.size && σ.all (fun i => Nat.blt i ops.size) && (List.range ops.size).all (fun i => σ.contains i) && pairsOk2 ops M σ && pairsOk3 D ops M σ
def drawsOk (D : List Nat) (N : Nat) (ops : Array Oper) (σ0 : List Nat) (σs : List (List Nat)) : Bool :=
 ops.toList.all (dstOk N) && masksOk (masksGo ops.toList []) 0 ops.toList && (σ0 :: σs).all (orderOk D ops (masksGo ops.toList [])) &&
  (exts (masksGo ops.toList []) (σ0.filter (isEff ops)).length (σ0.filter (isEff ops))).all (fun e => (σ0 :: σs).any fun σ => (σ.filter (isEff ops)) == e)
section
variable {P : Program} {c : World} {N : Nat} {ops : Array Oper} {D : List Nat}
theorem pairsOk2_append {M : List Nat} : ∀ {A B : List Nat}, pairsOk2 ops M (A ++ B) = true → (∀ i ∈ A, ∀ j ∈ B, pairOk2 ops i j = true) ∧ pairsOk2 ops M B = true
 | [], _, h => ⟨fun _ hi => by simp at hi, h⟩
 | i :: A, B, h => by
  simp only [List.cons_append, pairsOk2, Bool.and_eq_true] at h;obtain ⟨h1, h2⟩ := pairsOk2_append h.2;refine ⟨fun x hx j hj => ?_, h2⟩;rcases List.mem_cons.1 hx with rfl | hx
  · exact List.all_eq_true.1 h.1 j (by simp [hj])
  · exact h1 x hx j hj
theorem pairsOk2_drop {M : List Nat} : ∀ {A B : List Nat} {i : Nat}, pairsOk2 ops M (A ++ i :: B) = true → pairsOk2 ops M (A ++ B) = true
 | [], _, _, h => by simp only [List.nil_append, pairsOk2, Bool.and_eq_true] at h; exact h.2
 | x :: A, B, i, h => by
  simp only [List.cons_append, pairsOk2, Bool.and_eq_true] at h ⊢;refine ⟨List.all_eq_true.2 fun j hj => List.all_eq_true.1 h.1 j ?_, pairsOk2_drop h.2⟩;rcases List.mem_append.1 hj with hj | hj <;> simp [hj]
theorem pairsOk3_append {M : List Nat} : ∀ {A B : List Nat}, pairsOk3 D ops M (A ++ B) = true → (∀ i ∈ A, ∀ j ∈ B, ∃ r, (∀ z ∈ r, z ∈ A ++ B) ∧ pairOk3 D ops M i j r = true) ∧ pairsOk3 D ops M B = true
 | [], _, h => ⟨fun _ hi => by simp at hi, h⟩
 | i :: A, B, h => by
  simp only [List.cons_append, pairsOk3, Bool.and_eq_true] at h;obtain ⟨h1, h2⟩ := pairsOk3_append h.2;refine ⟨fun x hx j hj => ?_, h2⟩;rcases List.mem_cons.1 hx with rfl | hx
  · exact ⟨A ++ B, fun z hz => List.mem_cons_of_mem _ hz, List.all_eq_true.1 h.1 j (by simp [hj])⟩
  · obtain ⟨r, hr, hp⟩ := h1 x hx j hj
    exact ⟨r, fun z hz => List.mem_cons_of_mem _ (hr z hz), hp⟩
theorem pairOk3_drop {M : List Nat} {x j i : Nat} {A B : List Nat} (h : pairOk3 D ops M x j (A ++ i :: B) = true) (hi : isEff ops i = false ∨ isEff ops x = false) : pairOk3 D ops M x j (A ++ B) = true := by
 unfold pairOk3 at h ⊢;cases hx : ops[x]? with
 | none => rw [hx] at h; simp at h
 | some ox =>
  cases hj : ops[j]? with
  | none => rw [hx, hj] at h; simp at h
  | some oj =>
   rw [hx, hj] at h;simp only [Bool.or_eq_true, Bool.and_eq_true, List.any_eq_true] at h ⊢;rcases h with (h | h) | h
   · exact .inl (.inl h)
   · exact .inl (.inr h)
   · obtain ⟨h1, z, hz, h2, h3⟩ := h
     refine .inr ⟨h1, z, ?_, h2, h3⟩;rcases List.mem_append.1 hz with hz | hz
     · exact List.mem_append_left _ hz
     · rcases List.mem_cons.1 hz with rfl | hz
       · exfalso
         rcases hi with hi | hi
         · rw [hi] at h2; cases h2
         · unfold isEff at hi; rw [hx] at hi; simp only at hi; rw [hi] at h1; cases h1
       · exact List.mem_append_right _ hz
theorem pairsOk3_drop {M : List Nat} : ∀ {A B : List Nat} {i : Nat}, pairsOk3 D ops M (A ++ i :: B) = true → (isEff ops i = false ∨ ∀ x ∈ A, isEff ops x = false) → pairsOk3 D ops M (A ++ B) = true
 | [], _, _, h, _ => by simp only [List.nil_append, pairsOk3, Bool.and_eq_true] at h; exact h.2
 | x :: A, B, i, h, hi => by
  simp only [List.cons_append, pairsOk3, Bool.and_eq_true] at h ⊢;refine ⟨List.all_eq_true.2 fun j hj => pairOk3_drop (i := i) (List.all_eq_true.1 h.1 j ?_) ?_, pairsOk3_drop h.2 ?_⟩
  · rcases List.mem_append.1 hj with hj | hj <;> simp [hj]
  · rcases hi with hi | hi
    · exact .inl hi
    · exact .inr (hi x (by simp))
  · rcases hi with hi | hi
    · exact .inl hi
    · exact .inr fun y hy => hi y (by simp [hy])
theorem pairsOk2_nodup {M : List Nat} : ∀ {l : List Nat}, pairsOk2 ops M l = true → l.Nodup
 | [], _ => List.nodup_nil
 | i :: r, h => by
  simp only [pairsOk2, Bool.and_eq_true] at h;refine List.nodup_cons.2 ⟨fun hi => ?_, pairsOk2_nodup h.2⟩;have := List.all_eq_true.1 h.1 i hi;simp [pairOk2] at this
structure Go (ops : Array Oper) (M : List Nat) (σ : List Nat) (listed : Array Bool) : Prop where
 pairs : pairsOk2 ops M σ = true
 size : listed.size = ops.size
 un : ∀ i, i < ops.size → (listed.getD i true = false ↔ i ∈ σ)
 lt : ∀ i ∈ σ, i < ops.size
 cl : ∀ j o, ops[j]? = some o → listed.getD j true = true → ∀ e ∈ o.after, binding e = true → listed.getD e.on false = true
theorem getDs (l : Array Bool) (i : Nat) (b b' : Bool) (hi : i < l.size) : l.getD i b = l.getD i b' := by simp [Array.getD, hi]
theorem Go.first {M : List Nat} (hm : masksOk M 0 ops.toList = true) {i : Nat} {r : List Nat} {listed : Array Bool} (g : Go ops M (i :: r) listed) : i ∈ Region.ready .any ops listed := by
 obtain ⟨hp, hsz, hl, hlt, hcl⟩ := g;have hin := hlt i (by simp);obtain ⟨o, ho⟩ : ∃ o, ops[i]? = some o := ⟨ops[i], Array.getElem?_eq_getElem _⟩;unfold Region.ready;refine List.mem_filter.2 ⟨by simpa using hin, ?_⟩;simp only [Bool.and_eq_true, Bool.not_eq_true'];refine ⟨(hl i hin).2 (by simp), ?_⟩;simp only [ho, Option.map_some, Option.getD_some];rw [Array.all_eq_true'];intro e he;cases hb : binding e with
 | false => unfold binding at hb; simp [hb]
 | true =>
  have ho' : ops.toList[i]? = some o := by simpa using ho
  have hlt2 := (masksOk_at hm ho').2 e he hb;simp only [Nat.zero_add] at hlt2;cases hld : listed.getD e.on true with
  | true => rw [getDs _ _ _ true (by omega)]; simp [hld]
  | false =>
   exfalso;have hmem := (hl e.on (by omega)).1 hld;rcases List.mem_cons.1 hmem with h3 | h3
   · omega
   · simp only [pairsOk2, Bool.and_eq_true] at hp
     have := List.all_eq_true.1 hp.1 e.on h3;obtain ⟨o2, ho2⟩ : ∃ o2, ops[e.on]? = some o2 := ⟨ops[e.on]'(by omega), Array.getElem?_eq_getElem _⟩;simp only [pairOk2, ho, ho2, Bool.and_eq_true, Bool.not_eq_true'] at this;have hd : depsHas o e.on = true := List.any_eq_true.2 ⟨e, Array.mem_toList_iff.2 he, by simp [hb]⟩;rw [hd] at this;exact absurd this.2 (by simp)
theorem Go.pick {M : List Nat} (hm : masksOk M 0 ops.toList = true) {σ : List Nat} {listed : Array Bool} (g : Go ops M σ listed) {i : Nat} (hi : i ∈ Region.ready .any ops listed) :
 ∃ o A B, ops[i]? = some o ∧ σ = A ++ i :: B ∧ (∀ x ∈ σ, Nat.testBit (M.getD i 0) x = false) ∧ Go ops M (A ++ B) (listed.setIfInBounds i true) := by
 obtain ⟨hp, hsz, hl, hlt, hcl⟩ := g;unfold Region.ready at hi;obtain ⟨hi1, hi2⟩ := List.mem_filter.1 hi;have hin : i < ops.size := by simpa using hi1
 obtain ⟨o, ho⟩ : ∃ o, ops[i]? = some o := ⟨ops[i], Array.getElem?_eq_getElem _⟩;simp only [Bool.and_eq_true, Bool.not_eq_true', ho, Option.map_some, Option.getD_some] at hi2;obtain ⟨hi2, hi3⟩ := hi2
 have hdeps : ∀ e ∈ o.after, binding e = true → listed.getD e.on false = true := fun e he hb => by
  have := (Array.all_eq_true'.1 hi3) e he;unfold binding at hb
  simpa [hb] using this
 have hmem := (hl i hin).1 hi2;obtain ⟨A, B, rfl⟩ := List.append_of_mem hmem;refine ⟨o, A, B, ho, rfl, ?_, ?_⟩
 · intro x hx
   cases hb : Nat.testBit (M.getD i 0) x with
   | false => rfl
   | true =>
    exfalso;have hxn := hlt x hx
    have hcl' : ∀ j o, ops[j]? = some o → (listed.getD j false = true) → ∀ e ∈ o.after, binding e = true → listed.getD e.on false = true := fun j o' ho' hj => hcl j o' ho' (by
     have : j < ops.size := (Array.getElem?_eq_some_iff.1 ho').1;rw [getDs _ _ _ false (by omega)]; exact hj)
    have := mask_closed (listed := fun j => listed.getD j false = true) hm hcl' i o ho hdeps x hb;have h2 := (hl x hxn).2 hx;rw [getDs _ _ true false (by omega)] at h2;rw [h2] at this; cases this
 · have hnd := pairsOk2_nodup hp
   refine ⟨pairsOk2_drop hp, by simpa using hsz, ?_, fun x hx => hlt x (by rcases List.mem_append.1 hx with h | h <;> simp [h]), ?_⟩
   · intro x hx
     have hnot : i ∉ A ++ B := (List.nodup_cons.1 ((List.perm_middle (a := i) (l₁ := A) (l₂ := B)).nodup_iff.1 hnd)).1;by_cases hxi : x = i
     · subst hxi
       have : (listed.setIfInBounds x true).getD x true = true := by simp [Array.getD]
       rw [this];exact ⟨fun h => (by cases h), fun h => (hnot h).elim⟩
     · have : (listed.setIfInBounds i true).getD x true = listed.getD x true := by
        simp only [Array.getD_eq_getD_getElem?, Array.getElem?_setIfInBounds, if_neg (Ne.symm hxi)]
       rw [this, hl x hx];constructor
       · intro h
         rcases List.mem_append.1 h with h | h
         · simp [h]
         · rcases List.mem_cons.1 h with h | h
           · exact (hxi h).elim
           · simp [h]
       · intro h
         rcases List.mem_append.1 h with h | h <;> simp [h]
   · intro j oj hoj hj e he hb
     have mono : listed.getD e.on false = true → (listed.setIfInBounds i true).getD e.on false = true := fun h => by
      by_cases hei : e.on = i
      · subst hei
        have : e.on < listed.size := by omega
        simp [Array.getD, this]
      · simp only [Array.getD_eq_getD_getElem?, Array.getElem?_setIfInBounds, if_neg (Ne.symm hei)] at h ⊢; exact h
     by_cases hji : j = i
     · subst hji
       rw [ho] at hoj; cases hoj;exact mono (hdeps e he hb)
     · have : (listed.setIfInBounds i true).getD j true = listed.getD j true := by
        simp only [Array.getD_eq_getD_getElem?, Array.getElem?_setIfInBounds, if_neg (Ne.symm hji)]
       rw [this] at hj;exact mono (hcl j oj hoj hj e he hb)
theorem lin_step {M : List Nat} (hm : masksOk M 0 ops.toList = true) {σ : List Nat} {listed : Array Bool} (g : Go ops M σ listed) {fuel t : Nat} (hf : σ.length = fuel + 1) :
 ∃ i ∈ Region.ready .any ops listed, ∃ t', Region.linearise.go .any ops (fuel + 1) t listed [] = i :: Region.linearise.go .any ops fuel t' (listed.setIfInBounds i true) [] := by
 cases σ with
 | nil => simp at hf
 | cons x r =>
  have hx := g.first hm
  have hne : 0 < (Region.ready .any ops listed).length := List.length_pos_of_mem hx;have hlt : t % (Region.ready .any ops listed).length < (Region.ready .any ops listed).length := Nat.mod_lt _ hne;refine ⟨(Region.ready .any ops listed)[t % (Region.ready .any ops listed).length], List.getElem_mem _, t / (Region.ready .any ops listed).length, ?_⟩;have hi : (Region.ready .any ops listed)[t % (Region.ready .any ops listed).length]? = some (Region.ready .any ops listed)[t % (Region.ready .any ops listed).length] := List.getElem?_eq_getElem hlt
  have e1 : Region.linearise.go .any ops (fuel + 1) t listed [] = (match (Region.ready .any ops listed)[t % (Region.ready .any ops listed).length]? with
   | some i => Region.linearise.go .any ops fuel (t / (Region.ready .any ops listed).length) (listed.setIfInBounds i true) [i]
   | none => [].reverse) := rfl
  rw [e1, hi];simp only;rw [linearise_go_acc];rfl
theorem lin_exts {M : List Nat} (hm : masksOk M 0 ops.toList = true) : ∀ (fuel t : Nat) (σ : List Nat) (listed : Array Bool), σ.length = fuel → Go ops M σ listed →
 (Region.linearise.go .any ops fuel t listed []).filter (isEff ops) ∈ exts M (σ.filter (isEff ops)).length (σ.filter (isEff ops))
 | 0, t, σ, listed, hf, g => by
  have hσ : σ = [] := List.length_eq_zero_iff.1 hf;subst hσ;simp [Region.linearise.go, exts]
 | fuel + 1, t, σ, listed, hf, g => by
  obtain ⟨i, hi, t', e⟩ := lin_step (t := t) hm g hf;obtain ⟨o, A, B, ho, rfl, hmask, g'⟩ := g.pick hm hi;rw [e];have hlen : (A ++ B).length = fuel := by simp at hf ⊢; omega
  have ih := lin_exts hm fuel t' (A ++ B) _ hlen g';have hnd := pairsOk2_nodup g.pairs;cases hE : isEff ops i with
  | false =>
   rw [List.filter_cons_of_neg (by simp [hE])];have : (A ++ i :: B).filter (isEff ops) = (A ++ B).filter (isEff ops) := by simp [List.filter_append, List.filter_cons, hE]
   rw [this]; exact ih
  | true =>
   rw [List.filter_cons_of_pos (by simp [hE])];have h1 : (A ++ i :: B).filter (isEff ops) = A.filter (isEff ops) ++ i :: B.filter (isEff ops) := by simp [List.filter_append, List.filter_cons, hE]
   have hnA : i ∉ A.filter (isEff ops) := fun h => by
    have h2 := (List.mem_filter.1 h).1;have := (List.nodup_cons.1 ((List.perm_middle (a := i) (l₁ := A) (l₂ := B)).nodup_iff.1 hnd)).1;exact this (by simp [h2])
   have h3 : ((A ++ i :: B).filter (isEff ops)).erase i = (A ++ B).filter (isEff ops) := by
    rw [h1, List.erase_append_right _ hnA, List.erase_cons_head, List.filter_append]
   have hl : ((A ++ i :: B).filter (isEff ops)).length = ((A ++ B).filter (isEff ops)).length + 1 := by
    rw [h1, List.filter_append]; simp; omega
   rw [hl];unfold exts;refine List.mem_flatMap.2 ⟨i, by rw [h1]; simp, ?_⟩
   have hall : ((A ++ i :: B).filter (isEff ops)).all (fun x => !Nat.testBit (M.getD i 0) x) = true := List.all_eq_true.2 fun x hx => by
    rw [hmask x (List.mem_filter.1 hx).1]; rfl
   rw [hall, h3];exact List.mem_map.2 ⟨_, ih, rfl⟩
theorem draw_fixed {M : List Nat} {h0 : GH} {Q : Post} {R : Exit → Act → World → Prop} (hall : ops.toList.all (dstOk N) = true) (hm : masksOk M 0 ops.toList = true)
 (hR : ∀ a' w' s' h' L', Agrees N s' a' → St c h' L' w' → Q s' h' L' → GH.le h0 h' → R .normal a' w') :
 ∀ (fuel t : Nat) (Lr : Own) (σ : List Nat) (listed : Array Bool) (s : Fr) (h : GH) (L : Own) (a : Act) (w : World), σ.length = fuel → Go ops M σ listed → pairsOk3 D ops M σ = true →
  σ.filter (isEff ops) = (Region.linearise.go .any ops fuel t listed []).filter (isEff ops) → Agrees N s a → St c h L w → (∀ e ∈ Lr, e ∈ L) → GH.le h0 h → vcDrawD P c ops D Lr σ s h L Q → wpOps P ops R (Region.linearise.go .any ops fuel t listed []) a w
 | 0, t, Lr, σ, listed, s, h, L, a, w, hf, g, hp3, hE, ha, hs, hL, hle, hv => by
  have hσ : σ = [] := List.length_eq_zero_iff.1 hf;subst hσ;obtain ⟨s', h1, h2⟩ := hv;simp only [Region.linearise.go, List.reverse_nil, wpOps];exact hR a w s' h L (ha.sub h1) hs h2 hle
 | fuel + 1, t, Lr, σ, listed, s, h, L, a, w, hf, g, hp3, hE, ha, hs, hL, hle, hv => by
  obtain ⟨i, hi, t', e⟩ := lin_step (t := t) hm g hf;have hnd := pairsOk2_nodup g.pairs;have hpr := g.pairs;have hgl := g.lt;obtain ⟨o, A, B, ho, rfl, hmask, g'⟩ := g.pick hm hi;have hnAB : i ∉ A ++ B := (List.nodup_cons.1 ((List.perm_middle (a := i) (l₁ := A) (l₂ := B)).nodup_iff.1 hnd)).1;rw [e] at hE ⊢
  have hA : ∀ x ∈ A, ∃ ox, ops[x]? = some ox ∧ isRd ox.op = true ∧ apart ops ox o = true ∧ D.contains x = false ∧ (D.contains i = false ∨ isPureOp ox.op = true) := by
   intro x hx;have hxn := hgl x (by simp [hx]);obtain ⟨ox, hox⟩ : ∃ o, ops[x]? = some o := ⟨ops[x], Array.getElem?_eq_getElem _⟩;obtain ⟨r, hr, hp2⟩ := (pairsOk3_append hp3).1 x hx i (by simp);simp only [pairOk3, hox, ho, Bool.and_eq_true, Bool.or_eq_true, Bool.not_eq_true', List.any_eq_true] at hp2;rcases hp2 with ((hb | hb) | hb) | ⟨_, z, hz, _, hb⟩
   · rw [hmask x (by simp [hx])] at hb; cases hb
   · exact ⟨ox, hox, hb.1.1.1, hb.1.1.2, hb.1.2, hb.2⟩
   · exfalso
     have he1 : isEff ops i = true := by unfold isEff; rw [ho]; simp [hb.2]
     have he2 : isEff ops x = true := by unfold isEff; rw [hox]; simp [hb.1]
     rw [List.filter_cons_of_pos (by simp [he1]), List.filter_append] at hE;cases hfa : A.filter (isEff ops) with
     | nil => have : x ∈ A.filter (isEff ops) := List.mem_filter.2 ⟨hx, he2⟩; rw [hfa] at this; simp at this
     | cons y ys =>
      rw [hfa] at hE;simp only [List.cons_append, List.cons.injEq] at hE;have hy : y ∈ A := (List.mem_filter.1 (show y ∈ A.filter (isEff ops) by rw [hfa]; simp)).1;rw [hE.1] at hy;exact hnAB (by simp [hy])
   · rw [hmask z (hr z hz)] at hb; cases hb
  have hv2 := vcDrawD_front ho hA hL hv;unfold vcDrawD at hv2;rw [ho] at hv2;have hdo : dstOk N o = true := List.all_eq_true.1 hall o (by rw [Array.mem_toList_iff]; exact Array.mem_of_getElem? ho)
  have hE2 : (A ++ B).filter (isEff ops) = (Region.linearise.go .any ops fuel t' (listed.setIfInBounds i true) []).filter (isEff ops) := by
   cases he1 : isEff ops i with
   | false =>
    rw [List.filter_cons_of_neg (by simp [he1]), List.filter_append, List.filter_cons_of_neg (by simp [he1])] at hE;rw [List.filter_append]; exact hE
   | true =>
    rw [List.filter_cons_of_pos (by simp [he1]), List.filter_append, List.filter_cons_of_pos (by simp [he1])] at hE
    have hfa : A.filter (isEff ops) = [] := by
     cases hfa : A.filter (isEff ops) with
     | nil => rfl
     | cons y ys =>
      rw [hfa] at hE;simp only [List.cons_append, List.cons.injEq] at hE;have hy : y ∈ A := (List.mem_filter.1 (show y ∈ A.filter (isEff ops) by rw [hfa]; simp)).1;rw [hE.1] at hy;exact (hnAB (by simp [hy])).elim
    rw [hfa] at hE;simp only [List.nil_append, List.cons.injEq, true_and] at hE;rw [List.filter_append, hfa, List.nil_append]; exact hE
  have hp3' : pairsOk3 D ops M (A ++ B) = true := pairsOk3_drop hp3 (.inr fun x hx => by
   obtain ⟨ox, hox, hb, _⟩ := hA x hx;unfold isEff; rw [hox]; simp [hb])
  have hL2 : ∀ e ∈ (bif D.contains i then [] else Lr), e ∈ L := by cases D.contains i; exact hL; simp
  exact wpOp_of_step (R := R) ho hall ha hs hL2 (fun v w' h' L' hle' hs' hL' hk => draw_fixed hall hm hR fuel t' _ (A ++ B) _ (updF s o.dst v) h' L' (a.put o.dst v) w' (by simp at hf ⊢; omega) g' hp3' hE2 (ha.upd hdo) hs' hL' (GH.le_trans hle hle') hk) hv2
theorem introsD (hmix : P.follows .mixedOrders = true) (D : List Nat) (σ0 : List Nat) (σs : List (List Nat)) (Lr : Own) {s : Fr} {h : GH} {L : Own} {Q : Post} (hok : drawsOk D N ops σ0 σs = true) (hL : ∀ e ∈ Lr, e ∈ L) (hv : ∀ σ ∈ σ0 :: σs, vcDrawD P c ops D Lr σ s h L Q) : DoDraw P c N ops s h L Q := by
 simp only [drawsOk, Bool.and_eq_true] at hok;obtain ⟨⟨⟨hall, hm⟩, hord⟩, hcov⟩ := hok;refine ⟨fun a w t R ha hs hR => ?_⟩;simp only [Region.schedule, hmix, Bool.true_or, if_true]
 have mk : ∀ σ ∈ σ0 :: σs, (σ.length = ops.size ∧ Go ops (masksGo ops.toList []) σ (Array.replicate ops.size false)) ∧ pairsOk3 D ops (masksGo ops.toList []) σ = true := fun σ hσ => by
  have h1 := List.all_eq_true.1 hord σ hσ;simp only [orderOk, Bool.and_eq_true] at h1;obtain ⟨⟨⟨⟨hlen, hlt⟩, hc⟩, hp⟩, hp3⟩ := h1;refine ⟨⟨Nat.eq_of_beq_eq_true hlen, hp, by simp, ?_, fun i hi => Nat.blt_eq.mp (List.all_eq_true.1 hlt i hi), ?_⟩, hp3⟩
  · intro i hi
    have : σ.contains i = true := List.all_eq_true.1 hc i (by simpa using hi);simp only [Array.getD, Array.size_replicate, hi, dite_true]
    simpa using this
  · intro j o ho hj
    have hjn := (Array.getElem?_eq_some_iff.1 ho).1;simp [Array.getD, hjn] at hj
 obtain ⟨⟨hl0, g0⟩, _⟩ := mk σ0 (by simp);have hex := lin_exts hm ops.size t σ0 _ hl0 g0;have h1 := List.all_eq_true.1 hcov _ hex;obtain ⟨σ, hσ, he⟩ := List.any_eq_true.1 h1;obtain ⟨⟨hl, g⟩, hp3⟩ := mk σ hσ;exact draw_fixed (h0 := h) (Q := Q) (c := c) hall hm (fun a' w' s' h' L' h1 h2 h3 h4 => hR a' w' s' h' L' h1 h4 h2 h3) ops.size t Lr σ _ s h L a w hl g hp3 (eq_of_beq he) ha hs hL (GH.le_refl h) (hv σ hσ)
theorem introsS (hmix : P.follows .mixedOrders = true) (D : List Nat) (σ0 : List Nat) (σs : List (List Nat)) (Lr : Own) {s : Fr} {h : GH} {L : Own} {Q : Post} (hok : drawsOk D N ops σ0 σs = true) (hL : ∀ e ∈ Lr, e ∈ L) (hv : ∀ σ ∈ σ0 :: σs, DoDr P c ops D Lr σ s h L Q) : DoDraw P c N ops s h L Q :=
 introsD hmix D σ0 σs Lr hok hL fun σ hσ => (hv σ hσ).run
end
end D6
end Go.Brd
