/-
 What is owned is laid aside while a call reads it;functions that hand back a slice of plain data.
-/
import Derived.Test.YtfccagphnfceiaaGreatDoorCRf4
import Derived.Test.YtfccagphnfceiaaGreatDoorCRf1
import Derived.Shelf.Strings.Builder1
import Derived.Shelf.Strconv.Itoa3
import Derived.Lib.AppendStr
import Derived.Lib.LaidTab
import Derived.LaidMore
import Derived.OpenShut
import Derived.Stop.Joined
import Derived.MapKept
import Derived.Lib.Bytealg
import Derived.Lib.Strings
import Derived.Lib.Walk
import Derived.Shelf.Small.Strs
import Derived.Shelf.Small.Wraps
import Derived.Shelf.Strings.BuilderF
import Derived.Shelf.Strings.BuilderK
import Derived.Shelf.Strconv.Atoi
import Derived.Shelf.Strconv.Itoa0
import Derived.Shelf.Strconv.Itoa1
import Derived.Shelf.LaysM
import Derived.Shelf.Strconv.Itoa2
import Derived.Shelf.Strconv.AtoiErrFast
import Derived.Shelf.Strconv.ParseIntEmpty
import Derived.Shelf.Strconv.AtoiFail
import Derived.Shelf.Strconv.Clone
import Derived.Shelf.Strconv.SyntaxError
import Derived.Shelf.LaysC
import Derived.Shelf.Strconv.ToError
import Derived.Shelf.Strconv.Lower
import Derived.Shelf.Strconv.ParseUint10
import Derived.Shelf.Strconv.ParseUint10Empty
import Derived.Shelf.Strconv.ParseUint10Any
import Derived.Shelf.Strconv.ParseInt10
import Derived.Shelf.Strconv.AtoiLong
import Derived.Shelf.Strconv.AtoiInnerAll
import Derived.Shelf.Strconv.RangeError
import Derived.Shelf.Strconv.ToErrorRange
import Derived.Shelf.Strconv.AtoiAll
import Derived.Shelf.Strconv.ParseUintEmpty
import Derived.Shelf.Strconv.ParseUint10b64
import Derived.Shelf.Strconv.ParseUint10b32
import Derived.Shelf.Strconv.ParseUint10b16
import Derived.Shelf.Strconv.ParseUint10b8
import Derived.Shelf.Strconv.ParseUint10At
import Derived.Shelf.Strings.Search1
import Derived.Shelf.Strings.Prefix
import Derived.Test.YtfccagphnfceiaaGreatDoorRows

set_option linter.unusedVariables false
set_option linter.unusedSimpArgs false
section
namespace Go.Vc
section
variable {P:Program} {W w:World} {S F:List Own} {Φ Ψ:PW}
def OD (W:World) (o:Own) (M:List Nat) (w:World):Prop:=o.at w/\∀ b∈o.dom,b ∉ M/\W.heap.size<=b
instance a8z (W:World) (o:Own):aA (λM w=>OD W o M w):=⟨λhs h =>
 ⟨Own.CK h.1 λb hb=>hs.XO.block b (Own.a6A h.1 b hb) (h.2 b hb).1,λb hb=>⟨λhm=>by
  rcases hs.sub b hm with h1|h1
  ·exact (h.2 b hb).1 h1
  ·have:=Own.a6A h.1 b hb;omega,(h.2 b hb).2⟩⟩⟩
instance TT (D:List Nat) (Φ:PW) [aA Φ]:aA (λM w=>Φ (D++M) w):=⟨fun {M M' w w'} hs h =>
 aA.step (Φ:=Φ) (M:=D++M) (M':=D++M') ⟨hs.XO.mono λx hx=>List.mem_append_right _ hx,λb hb=>by
  rcases List.mem_append.1 hb with h|h
  ·exact .inl (List.mem_append_left _ h)
  ·rcases hs.sub b h with h|h
   ·exact .inl (List.mem_append_right _ h)
   ·exact .inr h⟩ h⟩
theorem Own.nodup (o:Own):o.dom.Nodup:=by
 cases o with
 | blk=>simp [Own.dom]
 | obj=>simp [Own.dom]
 | buf p=>cases p<;>simp [Own.dom]
theorem FJ (o:Own) (S:List Own):dom (o :: S)=o.dom++dom S:=rfl
theorem Ctx.aYH {o:Own} (c:Ctx W w (o :: S) Φ):Ctx W w S (λM w=>Φ (o.dom++M) w/\OD W o M w) :=
 ⟨c.XO,λx hx=>c.own x (List.mem_cons_of_mem _ hx),λb hb=>c.LS b (by rw [FJ];exact List.mem_append_right _ hb),
  (by have:=c.nodup;rw [FJ,List.nodup_append] at this;exact this.2.1),c.gW,c.own o List.mem_cons_self,λb hb =>
   ⟨λhm=>by have:=c.nodup;rw [FJ,List.nodup_append] at this;exact this.2.2 b hb b hm rfl,c.LS b (by rw [FJ];exact List.mem_append_left _ hb)⟩⟩
theorem OD.sl {α:Type} [Gv α] {M D:List Nat} {p:Option Addr} {n cap:Nat} {cs:List Value} {t:TypeId} {l:List α} (h:OD W (.buf p n cap cs t (Gv.ty α).size) M w)
  (he:aQ (D++M) w cs l):Sl M w p l:=by
 obtain ⟨⟨h1,h2⟩,h3⟩:=h
 have hpos:0<(Gv.ty α).size:=Gv.pos
 intro j hj
 have hle:(j+1)*(Gv.ty α).size<=cs.length:=by rw [he.1];exact Nat.mul_le_mul_right _ hj
 rw [Nat.add_mul,Nat.one_mul] at hle
 rcases h2 with ⟨e,rfl⟩|⟨g,cap',cur,e,_,hg,hnc,hcm,hcs,xO⟩
 ·rw [Nat.zero_mul] at h1;omega
 ·cases e
  refine ⟨g,0,(cs.drop (j*(Gv.ty α).size)).take (Gv.ty α).size,rfl,(h3 g (by simp [Own.dom])).1,λi hi=>?_,?_⟩
  ·rw [Nat.zero_add]
   simp only [List.length_take,List.length_drop] at hi
   rw [List.getElem_take,List.getElem_drop]
   have hlt:j*(Gv.ty α).size+i<cs.length:=by omega
   have h2:∀ k v,k<cs.length->cs[k]? = some v->cur[k]? = some v:=by
    intro k v hk hv
    rw [<-xO,List.getElem?_take_of_lt (by omega)] at hv
    simpa using hv
   have h2:=h2 _ _ hlt (List.getElem?_eq_getElem hlt)
   simp [World.cell?,hg,h2]
  ·exact Gv.j6 ⟨kD.refl _ _,λb hb=>.inl (List.mem_append_right _ hb)⟩ (he.2 j hj)
def Q8 (p:Option Addr) (n:Nat):Prop:=0<n->∃ b o,p=some ⟨b,o,none⟩
theorem Sl.there {α:Type} [Gv α] {M:List Nat} {w:World} {p:Option Addr} {l:List α} (h:Sl M w p l):Q8 p l.length:=λh0=>by
 obtain ⟨b,o,_,h1,_⟩:=h 0 h0
 exact ⟨b,o,h1⟩
theorem Sl.nil {α:Type} [Gv α] {M:List Nat} {w:World} {p:Option Addr}:Sl M w p ([]:List α):=λj hj=>by simp at hj
theorem aU.there {f:FuncId} {args:Array Value} {v:Value} {p:Option Addr} {n:Nat} (eT:∀ M w,Φ M w->Q8 p n) (h:Q8 p n->aU Φ P f args v):aU Φ P f args v :=
 ⟨λW w S c=>(h (eT _ _ c.gW)).go W w S c⟩
structure jP (Φ:PW) (P:Program) (f:FuncId) (args:Array Value) {α:Type} [Gv α] (l:List α) (mk:Value->Value):Prop where
 go:∀ (W w:World) (S:List Own),Ctx W w S Φ->Calls P f args w λe w'=>∃ p cap,e=.returned (mk (.slice p l.length cap))/\l.length<=cap/\cap<=maxLen/\Ctx W w' S (λM w=>Φ M w/\Sl M w p l)
theorem jP.use {f:FuncId} {args:Array Value} {α:Type} [Gv α] {l:List α} {mk:Value->Value} (h:jP Φ P f args l mk) (c:Ctx W w S Φ) {K:Ending->World->Prop}
  (hk:∀ p cap w',l.length<=cap->cap<=maxLen->Ctx W w' S (λM w=>Φ M w/\Sl M w p l)->K (.returned (mk (.slice p l.length cap))) w'):Calls P f args w K :=
 (h.go W w S c).mono λe w' ⟨p,cap,he,h1,h2,c'⟩=>by subst he;exact hk p cap w' h1 h2 c'
theorem jP.there {f:FuncId} {args:Array Value} {α:Type} [Gv α] {l:List α} {mk:Value->Value} {p:Option Addr} {n:Nat} (eT:∀ M w,Φ M w->Q8 p n) (h:Q8 p n->jP Φ P f args l mk):jP Φ P f args l mk :=
 ⟨λW w S c=>(h (eT _ _ c.gW)).go W w S c⟩
theorem jP.pinned [aA Φ] {f:FuncId} {args:Array Value} {β:Type} [Gv β] {r:List β} {mk:Value->Value} {α:Type} [Gv α] {p:Option Addr} {l:List α} (eT:∀ M w,Φ M w->Sl M w p l)
  (h:∀ b o cs,(0<l.length->p=some ⟨b,o,none⟩)->jP (λM w=>Φ M w/\Pin b o cs l M w) P f args r mk):jP Φ P f args r mk :=
 ⟨λW w S c=>by
  obtain ⟨b,o,cs,hp,c'⟩:=c.pin (eT _ _ c.gW)
  exact ((h b o cs hp).go W w S c').mono λe w' ⟨p,cap,h1,h2,h3,h4⟩=>⟨p,cap,h1,h2,h3,h4.weak λ_ _ h=>⟨h.1.1,h.2⟩⟩⟩
def WV (P:Program) (ts t:TypeId) (size bytes:Nat):Bool :=
 (match P.underlying ts with|some (.slice u)=>decide (u=t)|_=>false)&&(match P.info? t with
  | some i=>(match i.zero with|some z=>decide (z.cells.size=size)|none=>false)&&decide (i.size=size)&&decide (i.bytes=bytes)
  | none=>false)
theorem nV {ts t:TypeId} {size bytes:Nat} (h:WV P ts t size bytes=true):∃ i z,P.underlying ts=some (.slice t)/\P.info? t=some i/\i.zero=some z/\i.size=size/\z.cells.size=size/\i.bytes=bytes:=by
 unfold WV at h
 rw [Bool.and_eq_true] at h
 obtain ⟨h1,h2⟩:=h
 split at h1
 ·rename_i u hu
  have:u=t:=by simpa using h1
  subst this
  split at h2
  ·rename_i i hi
   simp only [Bool.and_eq_true] at h2
   obtain ⟨⟨h2,h3⟩,h4⟩:=h2
   split at h2
   ·rename_i z hz
    exact ⟨i,z,hu,hi,hz,by simpa using h3,by simpa using h2,by simpa using h4⟩
   ·cases h2
  ·cases h2
 ·cases h1
theorem kI {ats:Array TypeId} {ty:TypeId} {cs:Array Bool} {args:Array Value} {v:Value} {w w':World} (h:(Builtin.append_ ats ty args).run P w=.ok v w'):Sem.run P (builtin Builtin.append ats ty cs args) w=.ok (.value v) w':=by
 unfold builtin
 simp only [Sem.run_bind,h,Result.andThen,Sem.run_pure]
theorem Ctx.a2t [aA Φ] {b:Nat} {news:List Value} {t':TypeId} {p:Option Addr} {n cap:Nat} {cs:List Value} {t:TypeId} {size bytes:Nat} (c:Ctx W w (.blk b news t' :: .buf p n cap cs t size :: S) Φ)
  {ts ty:TypeId} {kb:Array Bool} (hb:WV P ts t size bytes=true) (h0:0<size) (hl:news.length=size) (h1:(news.all λu=>pG u)=true) (hlen:n<100000000) (hbytes:bytes<=1000) :
  ∃ p' cap' w',Sem.run P (builtin Builtin.append #[ts,ts] ty kb #[.slice p n cap,.slice (some ⟨b,0,none⟩) 1 1]) w=.ok (.value (.slice p' (n+1) cap')) w'/\(∃ g,p'=some ⟨g,0,none⟩)/\Ctx W w' (.buf p' (n+1) cap' (cs++news) t size :: S) Φ:=by
 obtain ⟨i,z,e1,e2,e3,e4,e5,e6⟩:=nV hb
 have hby:(n+1)*i.bytes<=100000000*1000:=Nat.mul_le_mul (by omega) (by omega)
 obtain ⟨p',cap',w',h2,c'⟩:=c.append 1 rfl (ty:=ty) e1 e2 e3 e4 e5 (a:=⟨b,0,none⟩) (m:=1) (c2:=1) (news:=news) (by omega) (by rw [hl,Nat.one_mul]) (λj u hj=>by rw [addr_add,Nat.zero_add];exact c.get 0 rfl hj)
  (λu hu=>List.all_eq_true.1 h1 u hu) (by omega) (by omega)
 refine ⟨p',cap',w',kI h2,?_,c'.drop1⟩
 obtain ⟨g,hg,_⟩:=c'.jF 1 rfl (by rw [List.length_append];omega)
 exact ⟨g,hg⟩
theorem Ctx.yC [aA Φ] (c:Ctx W w S Φ) (t:TypeId) (size:Nat):Ctx W w (.buf none 0 0 [] t size :: S) Φ:=c.a8d t size
theorem Sl.less {α:Type} [Gv α] {M D:List Nat} {w:World} {p:Option Addr} {l:List α} (h:Sl (D++M) w p l):Sl M w p l :=
 h.j6 ⟨kD.refl _ _,λb hb=>.inl (List.mem_append_right _ hb)⟩
structure FK (Φ:PW) (P:Program) (f:FuncId) (args:Array Value) (n:Nat) (cells:List Value) (t:TypeId) (size:Nat) (mk:Value->Value):Prop where
 go:∀ (W w:World) (S:List Own),Ctx W w S Φ->Calls P f args w λe w'=>∃ p cap,e=.returned (mk (.slice p n cap))/\Ctx W w' (.buf p n cap cells t size :: S) Φ
theorem FK.sl [aA Φ] {f:FuncId} {args:Array Value} {α:Type} [Gv α] {l:List α} {cells:List Value} {t:TypeId} {mk:Value->Value} (h:FK Φ P f args l.length cells t (Gv.ty α).size mk)
  (he:∀ M w,Φ M w->aQ M w cells l):jP Φ P f args l mk :=
 ⟨λW w S c=>(h.go W w S c).mono λe w' ⟨p,cap,h1,c'⟩=>by
  obtain ⟨c2,hs,_,h2,h3⟩:=Ctx.freeze c' (he _ _ c'.gW)
  exact ⟨p,cap,h1,h2,h3,c2.add hs⟩⟩
theorem FK.pinned [aA Φ] {f:FuncId} {args:Array Value} {n:Nat} {cells:List Value} {t:TypeId} {size:Nat} {mk:Value->Value} {α:Type} [Gv α] {p:Option Addr} {l:List α} (eT:∀ M w,Φ M w->Sl M w p l)
  (h:∀ b o cs,(0<l.length->p=some ⟨b,o,none⟩)->FK (λM w=>Φ M w/\Pin b o cs l M w) P f args n cells t size mk):FK Φ P f args n cells t size mk :=
 ⟨λW w S c=>by
  obtain ⟨b,o,cs,hp,c'⟩:=c.pin (eT _ _ c.gW)
  exact ((h b o cs hp).go W w S c').mono λe w' ⟨p,cap,h1,h4⟩=>⟨p,cap,h1,h4.fst⟩⟩
theorem OD.aOD {α:Type} [Gv α] {M:List Nat} {b:Nat} {cs:List Value} {t:TypeId} {l:List α} (h:OD W (.blk b cs t) M w) (he:aQ M w cs l):Sl M w (some ⟨b,0,none⟩) l:=by
 obtain ⟨h1,h2⟩:=h
 have h1:wA w b cs t:=h1
 intro j hj
 have hle:(j+1)*(Gv.ty α).size<=cs.length:=by rw [he.1];exact Nat.mul_le_mul_right _ hj
 rw [Nat.add_mul,Nat.one_mul] at hle
 refine ⟨b,0,(cs.drop (j*(Gv.ty α).size)).take (Gv.ty α).size,rfl,(h2 b (by simp [Own.dom])).1,λi hi=>?_,he.2 j hj⟩
 simp only [List.length_take,List.length_drop] at hi
 rw [Nat.zero_add,List.getElem_take,List.getElem_drop]
 exact h1.LN (List.getElem?_eq_getElem (by omega))
theorem Ctx.YE [aA Φ] {α:Type} [Gv α] {b:Nat} {cs:List Value} {t:TypeId} {l:List α} (c:Ctx W w (.blk b cs t :: S) Φ) (he:aQ (dom (.blk b cs t :: S)) w cs l):Ctx W w S Φ/\Sl (dom S) w (some ⟨b,0,none⟩) l:=by
 have c':=c.aYH
 refine ⟨c.drop1,c'.gW.2.aOD ⟨he.1,λj hj=>?_⟩⟩
 exact Gv.j6 ⟨kD.refl _ _,λb hb=>.inl (by rw [FJ];exact List.mem_append_right _ hb)⟩ (he.2 j hj)
theorem aQ.two {α:Type} [Gv α] {M:List Nat} {cs ds:List Value} {x y:α} (h1:Gv.rep M w cs x) (h2:Gv.rep M w ds y):aQ M w (cs++ds) [x,y]:=aQ.snoc (l:=[x]) (aQ.snoc (l:=[]) (cs:=[]) aQ.nil h1) h2
theorem aQ.one {α:Type} [Gv α] {M:List Nat} {cs:List Value} {x:α} (h1:Gv.rep M w cs x):aQ M w cs [x]:=aQ.snoc (l:=[]) (cs:=[]) aQ.nil h1
end
end Go.Vc
end

section
namespace Go.Vc
section
variable {P:Program} {W w w':World} {S S' F:List Own} {Φ Ψ:PW}
theorem Ctx.swap [aA Φ] {a b:Own} (c:Ctx W w (a :: b :: S) Φ):Ctx W w (b :: a :: S) Φ:=c.perm (List.Perm.swap _ _ _)
theorem Ctx.aKi (c:Ctx W w S Φ) (k:Nat) {p:Option Addr} {n cap:Nat} {cs:List Value} {t:TypeId} {size:Nat} (hk:S[k]? = some (.buf p n cap cs t size)) (h0:0<cs.length) :
  ∃ b cur,p=some ⟨b,0,none⟩/\wA w b cur t/\cur.take (n*size)=cs/\n<=cap/\cap<=maxLen/\cur.length=cap*size/\cs.length=n*size:=by
 obtain ⟨h1,h2⟩:=c.own _ (List.mem_of_getElem? hk)
 rcases h2 with ⟨e,rfl⟩|⟨g,cap',cur,e,_,hg,hnc,hcm,hcs,xO⟩
 ·rw [Nat.zero_mul] at h1;omega
 ·cases e
  exact ⟨g,cur.toList,rfl,by simpa [wA] using hg,xO,hnc,hcm,by simpa using hcs,h1⟩
theorem Ctx.OE (c:Ctx W w S Φ) (k:Nat) {p:Option Addr} {n cap:Nat} {cs:List Value} {t:TypeId} {size:Nat} (hk:S[k]? = some (.buf p n cap cs t size)) {b o:Nat} (hp:p=some ⟨b,0,none⟩) {vs:List Value}
  (hv:∀ j,(hj:j<vs.length)->cs[o+j]? = some vs[j]):dH w b o vs:=by
 intro j hj
 have hlt:o+j<cs.length:=(List.getElem?_eq_some_iff.1 (hv j hj)).1
 obtain ⟨b',h1,_,h2⟩:=c.jF k hk (by omega)
 rw [hp] at h1
 cases h1
 exact (h2 _ _ (hv j hj)).1
theorem Ctx.aBk (c:Ctx W w S Φ) (k:Nat) {p:Option Addr} {n cap:Nat} {cs:List Value} {t:TypeId} {size:Nat} (hk:S[k]? = some (.buf p n cap cs t size)) {b o m:Nat} (hp:p=some ⟨b,0,none⟩) (hm:o+m<=cs.length):aE w b o m:=by
 intro j hj
 obtain ⟨b',h1,_,h2⟩:=c.jF k hk (by omega)
 rw [hp] at h1
 cases h1
 have:=h2 (o+j) cs[o+j] (List.getElem?_eq_getElem (by omega))
 exact ⟨by rw [this.1];rfl,this.2⟩
theorem FL:∀ (vs:List Value) (cs:List Value) (o:Nat),(oB cs o vs).length=cs.length
 | [],_,_=>rfl
 | v :: r,cs,o=>by unfold oB;rw [FL r];simp
theorem YF:∀ (vs:List Value) (cs:List Value) (o m:Nat),o+vs.length<=m->(oB cs o vs).take m=oB (cs.take m) o vs
 | [],_,_,_,_=>rfl
 | v :: r,cs,o,m,h=>by
  unfold oB
  simp only [List.length_cons] at h
  rw [YF r _ _ _ (by omega),List.take_set]
theorem kW:∀ (vs:List Value) (cs:List Value) (o i:Nat),(i<o\/o+vs.length<=i)->(oB cs o vs)[i]? = cs[i]?
 | [],_,_,_,_=>rfl
 | v :: r,cs,o,i,h=>by
  unfold oB
  simp only [List.length_cons] at h
  rw [kW r _ _ _ (by omega),List.getElem?_set_ne (by omega)]
theorem CZ:∀ (vs:List Value) (cs:List Value) (o i:Nat),i<vs.length->o+vs.length<=cs.length->(oB cs o vs)[o+i]? = vs[i]?
 | [],_,_,_,h,_=>by simp at h
 | v :: r,cs,o,0,h,hl=>by
  unfold oB
  simp only [List.length_cons] at hl
  rw [kW r _ _ _ (by omega),Nat.add_zero,List.getElem?_set_self (by omega)]
  rfl
 | v :: r,cs,o,i+1,h,hl=>by
  unfold oB
  simp only [List.length_cons] at hl h
  rw [show o+(i+1)=o+1+i by omega,CZ r _ _ _ (by omega) (by simp;omega)]
  rfl
theorem Ctx.a0Q [aA Φ] (c:Ctx W w S Φ) (k:Nat) {p:Option Addr} {n cap:Nat} {cs vs:List Value} {t:TypeId} {size:Nat} (hk:S[k]? = some (.buf p n cap cs t size)) {b o:Nat} (hp:p=some ⟨b,0,none⟩) (h0:0<cs.length) (ho:o+vs.length<=cs.length)
  (e:w'=w.setCells b o vs):Ctx W w' (S.set k (.buf p n cap (oB cs o vs) t size)) Φ:=by
 obtain ⟨b',cur,h1,hb,xO,hnc,hcm,DI,hl⟩:=c.aKi k hk h0
 rw [hp] at h1
 cases h1
 subst e
 refine c.upd hk ((kD.refl _ _).setCells (by subst hp;simp [Own.dom]) o vs) (λx hx=>.inl (by subst hp;exact hx)) (by subst hp;simp [Own.dom]) ?_
 have hb':=wA.sets vs o hb
 refine ⟨by rw [FL,hl],.inr ⟨b,cap,(oB cur o vs).toArray,by rw [hp],Nat.zero_le _,hb',hnc,hcm,by simp [FL,DI],?_⟩⟩
 rw [<-xO,YF _ _ _ _ (by omega)]
theorem aQ.setAt {α:Type} [Gv α] {M:List Nat} {cs d:List Value} {l:List α} {x:α} (h:aQ M w cs l) (k:Nat) (hk:k<l.length) (hx:Gv.rep M w d x):aQ M w (oB cs (k*(Gv.ty α).size) d) (l.set k x):=by
 have hd:=Gv.len hx
 refine ⟨by rw [FL,h.1];simp,λj hj=>?_⟩
 have hj:j<l.length:=by simpa using hj
 have hle:(k+1)*(Gv.ty α).size<=cs.length:=by rw [h.1];exact Nat.mul_le_mul_right _ hk
 have hlj:(j+1)*(Gv.ty α).size<=cs.length:=by rw [h.1];exact Nat.mul_le_mul_right _ hj
 rw [Nat.add_mul,Nat.one_mul] at hle hlj
 by_cases hjk:k=j
 ·subst hjk
  rw [List.getElem_set_self]
  have:((oB cs (k*(Gv.ty α).size) d).drop (k*(Gv.ty α).size)).take (Gv.ty α).size=d:=by
   apply List.ext_getElem?
   intro i
   by_cases hi:i<(Gv.ty α).size
   ·rw [List.getElem?_take_of_lt hi,List.getElem?_drop,CZ _ _ _ _ (by omega) (by omega)]
   ·rw [List.getElem?_eq_none (by simp;omega),List.getElem?_eq_none (by omega)]
  rw [this]
  exact hx
 ·rw [List.getElem_set_ne hjk]
  have:((oB cs (k*(Gv.ty α).size) d).drop (j*(Gv.ty α).size)).take (Gv.ty α).size=(cs.drop (j*(Gv.ty α).size)).take (Gv.ty α).size:=by
   apply List.ext_getElem?
   intro i
   by_cases hi:i<(Gv.ty α).size
   ·rw [List.getElem?_take_of_lt hi,List.getElem?_drop,List.getElem?_take_of_lt hi,List.getElem?_drop]
    refine kW _ _ _ _ ?_
    rw [hd]
    rcases Nat.lt_or_gt_of_ne hjk with hlt|hlt
    ·right
     have:=Nat.mul_le_mul_right (Gv.ty α).size (show k+1<=j from hlt)
     rw [Nat.add_mul,Nat.one_mul] at this
     omega
    ·left
     have:=Nat.mul_le_mul_right (Gv.ty α).size (show j+1<=k from hlt)
     rw [Nat.add_mul,Nat.one_mul] at this
     omega
   ·rw [List.getElem?_eq_none (by simp [FL];omega),List.getElem?_eq_none (by simp;omega)]
  rw [this]
  exact h.2 j hj
theorem Sl.cells {α:Type} [Gv α] {M:List Nat} {p:Option Addr} {l:List α} (h:Sl M w p l) (h1:∀ M w cs (x:α),Gv.rep M w cs x->(cs.all λu=>pG u)=true) (h0:0<l.length) :
  ∃ b o news,p=some ⟨b,o,none⟩/\news.length=l.length*(Gv.ty α).size/\(∀ j u,news[j]? = some u->w.cell? ⟨b,o+j,none⟩=some u)/\aQ M w news l/\(news.all λu=>pG u)=true:=by
 obtain ⟨b,o,_,hp,_⟩:=h 0 h0
 have key:∀ k,k<=l.length->∃ news:List Value,news.length=k*(Gv.ty α).size/\(∀ j u,news[j]? = some u->w.cell? ⟨b,o+j,none⟩=some u)/\aQ M w news (l.take k)/\(news.all λu=>pG u)=true:=by
  intro k
  induction k with
  | zero=>intro _;exact ⟨[],by simp,λj u hj=>by simp at hj,by rw [List.take_zero];exact aQ.nil,rfl⟩
  | succ k ih =>
   intro hk
   obtain ⟨news,g1,g2,g3,g4⟩:=ih (by omega)
   obtain ⟨b',o',cs,e1,_,e3,e4⟩:=h k (by omega)
   rw [hp] at e1
   cases e1
   have hlen:=Gv.len e4
   refine ⟨news++cs,by rw [List.length_append,g1,hlen,Nat.add_mul,Nat.one_mul],λj u hj=>?_,?_,by rw [List.all_append,g4,h1 _ _ _ _ e4];rfl⟩
   ·by_cases hlt:j<news.length
    ·rw [List.getElem?_append_left hlt] at hj
     exact g2 j u hj
    ·rw [List.getElem?_append_right (by omega)] at hj
     have hl2:j - news.length<cs.length:=(List.getElem?_eq_some_iff.1 hj).1
     have:=e3 (j - news.length) hl2
     rw [show o+k*(Gv.ty α).size+(j - news.length)=o+j by omega] at this
     rw [this,<-hj,List.getElem?_eq_getElem hl2]
   ·rw [List.take_succ_eq_append_getElem (by omega)]
    exact g3.snoc e4
 obtain ⟨news,g1,g2,g3,g4⟩:=key l.length (Nat.le_refl _)
 rw [List.take_length] at g3
 exact ⟨b,o,news,hp,g1,g2,g3,g4⟩
theorem Ctx.aHQ [aA Φ] {α:Type} [Gv α] {q:Option Addr} {l:List α} {c2:Nat} {p:Option Addr} {n cap:Nat} {cs:List Value} {t:TypeId} {bytes:Nat} (c:Ctx W w (.buf p n cap cs t (Gv.ty α).size :: S) Φ)
  {ts ty:TypeId} {kb:Array Bool} (hb:WV P ts t (Gv.ty α).size bytes=true) (h1:∀ M w cs (x:α),Gv.rep M w cs x->(cs.all λu=>pG u)=true) (NQ:∀ M w,Φ M w->Sl M w q l) (h0:0<l.length) (hlen:n+l.length<100000000) (hbytes:bytes<=1000) :
  ∃ p' cap' w' news,Sem.run P (builtin Builtin.append #[ts,ts] ty kb #[.slice p n cap,.slice q l.length c2]) w=.ok (.value (.slice p' (n+l.length) cap')) w'/\(∃ g,p'=some ⟨g,0,none⟩) /\
   Ctx W w' (.buf p' (n+l.length) cap' (cs++news) t (Gv.ty α).size :: S) (λM w=>Φ M w/\aQ M w news l):=by
 obtain ⟨i,z,e1,e2,e3,e4,e5,e6⟩:=nV hb
 have hby:(n+l.length)*i.bytes<=100000000*1000:=Nat.mul_le_mul (by omega) (by omega)
 obtain ⟨b,o,news,hp,g1,g2,g3,g4⟩:=(NQ _ _ c.gW).cells h1 h0
 obtain ⟨p',cap',w',h2,c'⟩:=(c.add (Ψ:=λM w=>aQ M w news l) g3).append 0 rfl (ty:=ty) e1 e2 e3 e4 e5 (a:=⟨b,o,none⟩) (m:=l.length) (c2:=c2) (news:=news) h0 g1 (λj u hj=>by rw [addr_add];exact g2 j u hj)
  (λu hu=>List.all_eq_true.1 g4 u hu) (by omega) (by omega)
 have hpos:0<(Gv.ty α).size:=Gv.pos
 have hl2:0<l.length*(Gv.ty α).size:=Nat.mul_pos h0 hpos
 refine ⟨p',cap',w',news,by rw [hp];exact kI h2,?_,c'⟩
 obtain ⟨g,hg,_⟩:=c'.jF 0 rfl (by rw [List.length_append];omega)
 exact ⟨g,hg⟩
end
end Go.Vc
end

section
namespace Go.Vc
section
variable {P:Program} {W w w':World} {S S' F:List Own} {Φ Ψ:PW}
theorem aA.less {Φ:PW} [aA Φ] {D M:List Nat} {w:World} (h:Φ (D++M) w):Φ M w :=
 aA.step (Φ:=Φ) ⟨kD.refl _ _,λb hb=>.inl (List.mem_append_right _ hb)⟩ h
structure uR (Φ:PW) (P:Program) (f:FuncId) (args:Array Value) {α:Type} [Gv α] (l:List α) (t:TypeId):Prop where
 go:∀ (W w:World) (S:List Own),Ctx W w S Φ->Calls P f args w λe w'=>∃ p cap cs,e=.returned (.slice p l.length cap)/\Ctx W w' (.buf p l.length cap cs t (Gv.ty α).size :: S) (λM w=>Φ M w/\aQ M w cs l)
theorem uR.use {f:FuncId} {args:Array Value} {α:Type} [Gv α] {l:List α} {t:TypeId} (h:uR Φ P f args l t) (c:Ctx W w S Φ) {K:Ending->World->Prop}
  (hk:∀ p cap cs w',Ctx W w' (.buf p l.length cap cs t (Gv.ty α).size :: S) (λM w=>Φ M w/\aQ M w cs l)->K (.returned (.slice p l.length cap)) w'):Calls P f args w K :=
 (h.go W w S c).mono λe w' ⟨p,cap,cs,he,c'⟩=>by subst he;exact hk p cap cs w' c'
theorem YG [aA Φ] {f:FuncId} {args:Array Value} {α:Type} [Gv α] {l:List α} {t:TypeId} {B:World->List Own->PW->(Value->World->Prop)->Prop}
  (run:∀ {W w:World} {R:List Own} {Φ:PW} [aA Φ] {J:Value->World->Prop},Ctx W w R Φ->B W R Φ J->Calls P f args w λe w'=>∃ v,e=.returned v/\J v w')
  (h:∀ (W:World) (R:List Own),B W R Φ λu w'=>∃ p cap cs,u=.slice p l.length cap/\Ctx W w' (.buf p l.length cap cs t (Gv.ty α).size :: R) (λM w=>Φ M w/\aQ M w cs l)):uR Φ P f args l t :=
 ⟨λW w S c=>EW (run c (h W S)) λu w' ⟨p,cap,cs,h1,h2⟩=>⟨p,cap,cs,by rw [h1],h2⟩⟩
theorem uR.there {f:FuncId} {args:Array Value} {α:Type} [Gv α] {l:List α} {t:TypeId} {p:Option Addr} {n:Nat} (eT:∀ M w,Φ M w->Q8 p n) (h:Q8 p n->uR Φ P f args l t):uR Φ P f args l t :=
 ⟨λW w S c=>(h (eT _ _ c.gW)).go W w S c⟩
theorem Ctx.aKj [aA Φ] {α:Type} [Gv α] {q:Option Addr} {l:List α} {c2:Nat} {k:Nat} {t:TypeId} {bytes:Nat} (c:Ctx W w (.blk k [] t :: S) Φ)
  {ts ty:TypeId} {kb:Array Bool} (hb:WV P ts t (Gv.ty α).size bytes=true) (h1:∀ M w cs (x:α),Gv.rep M w cs x->(cs.all λu=>pG u)=true) (NQ:∀ M w,Φ M w->Sl M w q l) (hlen:l.length<100000000) (hbytes:bytes<=1000) :
  ∃ p' cap' w' cs,Sem.run P (builtin Builtin.append #[ts,ts] ty kb #[.slice (some ⟨k,0,none⟩) 0 0,.slice q l.length c2]) w=.ok (.value (.slice p' l.length cap')) w' /\
   Ctx W w' (.buf p' l.length cap' cs t (Gv.ty α).size :: S) (λM w=>Φ M w/\aQ M w cs l):=by
 have c':Ctx W w (.buf (some ⟨k,0,none⟩) 0 0 [] t (Gv.ty α).size :: S) Φ:=c.a14 0 0 (Gv.ty α).size rfl (by simp) (by simp [maxLen])
 rcases Nat.eq_zero_or_pos l.length with h0|h0
 ·obtain ⟨i,z,e1,e2,e3,e4,e5,e6⟩:=nV hb
  have hl:l=[]:=List.eq_nil_of_length_eq_zero h0
  subst hl
  exact ⟨_,_,w,[],kI (c'.LU 0 rfl e1 e2 q c2),c'.add aQ.nil⟩
 ·obtain ⟨p',cap',w',news,h2,_,c3⟩:=c'.aHQ (ty:=ty) (kb:=kb) (c2:=c2) hb h1 NQ h0 (by omega) hbytes
  rw [Nat.zero_add] at h2 c3
  exact ⟨p',cap',w',news,h2,c3⟩
def fZ (b o:Nat) (vs:List Value) (M:List Nat) (w:World):Prop:=b ∉ M/\dH w b o vs/\b<w.heap.size
instance aAj (b o:Nat) (vs:List Value):aA (λM w=>fZ b o vs M w):=⟨λhs h =>
 ⟨λhm=>by rcases hs.sub b hm with h1|h1;exact h.1 h1;have:=h.2.2;omega,hs.XO.row h.2.1 h.1,Nat.lt_of_lt_of_le h.2.2 hs.XO.size⟩⟩
def a0R (W:World) (Q:List Own) (M:List Nat) (w:World):Prop:=(∀ o∈Q,o.at w)/\(dom Q).Nodup/\∀ b∈dom Q,b ∉ M/\W.heap.size<=b
instance a6Y (W:World) (Q:List Own):aA (λM w=>a0R W Q M w):=⟨λhs h=>by
 have hlt:∀ b∈dom Q,b<_:=λb hb=>by
  obtain ⟨o,ho,hb⟩:=List.mem_flatMap.1 hb
  exact Own.a6A (h.1 o ho) b hb
 exact ⟨λo ho=>Own.CK (h.1 o ho) λb hb=>hs.XO.block b (hlt b (oC ho hb)) (h.2.2 b (oC ho hb)).1,h.2.1,λb hb=>⟨λhm=>by
  rcases hs.sub b hm with h1|h1
  ·exact (h.2.2 b hb).1 h1
  ·have:=hlt b hb;omega,(h.2.2 b hb).2⟩⟩⟩
def TU (W:World) (Q:List Own) (Φ:PW):PW:=λM w=>Φ (dom Q++M) w/\a0R W Q M w
instance aAk (W:World) (Q:List Own) (Φ:PW) [aA Φ]:aA (TU W Q Φ) :=
 have h1:aA (λM w=>Φ (dom Q++M) w):=TT (dom Q) Φ
 cU (λM w=>Φ (dom Q++M) w) (λM w=>a0R W Q M w)
theorem Ctx.aside {Q:List Own} (c:Ctx W w (Q++S) Φ):Ctx W w S (TU W Q Φ):=by
 have hd:=zJ Q S
 have hn:=c.nodup
 rw [hd,List.nodup_append] at hn
 refine ⟨c.XO,λx hx=>c.own x (List.mem_append_right _ hx),λb hb=>c.LS b (by rw [hd];exact List.mem_append_right _ hb),hn.2.1,?_,λo ho=>c.own o (List.mem_append_left _ ho),hn.1,λb hb=>⟨λhm=>hn.2.2 b hb b hm rfl,c.LS b (by rw [hd];exact List.mem_append_left _ hb)⟩⟩
 have:=c.gW
 rw [hd] at this
 exact this
theorem TU.less [aA Φ] {Q:List Own} {M:List Nat} (h:TU W Q Φ M w):Φ M w:=aA.less h.1
theorem TU.imp {Q:List Own} {Ψ:PW} {M:List Nat} (h:TU W Q Φ M w) (hi:∀ M w,Φ M w->Ψ M w):TU W Q Ψ M w:=⟨hi _ _ h.1,h.2⟩
theorem Ctx.re (c:Ctx W w S Φ) (e:S=S'):Ctx W w S' Φ:=e ▸ c
theorem Ctx.aOE [aA Φ] {Q T G:List Own} (c:Ctx W w (Q++T++G) Φ):Ctx W w (T++G) Φ:=Ctx.right (S:=Q) (c.re (List.append_assoc _ _ _))
theorem Ctx.a4V (c:Ctx W w S Φ) (k:Nat) {p:Option Addr} {n cap:Nat} {cs:List Value} {t:TypeId} {size:Nat} (hk:S[k]? = some (.buf p n cap cs t size)) {b i:Nat} {v:Value} (hp:p=some ⟨b,0,none⟩) (hv:cs[i]? = some v):w.cell? ⟨b,i,none⟩=some v:=by
 obtain ⟨b',h1,_,h2⟩:=c.jF k hk (by have:=(List.getElem?_eq_some_iff.1 hv).1;omega)
 rw [hp] at h1
 cases h1
 exact (h2 _ _ hv).1
end
end Go.Vc
end

section
namespace Go.Vc
open Go.ChangeShapes Go.WideShapes Go.RowKit
section
variable {H:Type} {enc:TypeId × Value->H} {P:Program} {W:World}
theorem aU.law {Φ:PW} {f:FuncId} {args:Array Value} (h:aU Φ P f args (.bool true)) (h0:Φ [] W):Calls P f args W λe W'=>∃ u,e=.returned u/\(u=.bool true/\kD [] W W') :=
 (h.go W W [] (Ctx.start W h0)).mono λe w' ⟨h1,h2⟩=>⟨_,h1,rfl,h2.XO⟩
end
end Go.Vc
end

section
namespace Go.Vc
open Go.RowKit Go.Shelf
section
variable {P:Program} {W w w':World} {S R F:List Own} {Φ Ψ:PW}
theorem Ctx.lose [aA Φ] (c:Ctx W w (R++S) Φ) (h:kD (dom R) w w'):Ctx W w' S Φ:=by
 have hn:=c.nodup
 rw [zJ,List.nodup_append] at hn
 refine c.go ⟨h.mono λx hx=>by rw [zJ];exact List.mem_append_left _ hx,λb hb=>.inl (by rw [zJ];exact List.mem_append_right _ hb)⟩ (λo ho=>?_) hn.2.1
 exact Own.CK (c.own o (List.mem_append_right _ ho)) λb hb=>h.block b (c.lt (oC (List.mem_append_right _ ho) hb)) λhm=>hn.2.2 b hm b (oC ho hb) rfl
theorem Ctx.aKk [aA Φ] {p:Option Addr} {n cap:Nat} {cs:List Value} {e:TypeId} (c:Ctx W w (.buf p n cap cs e 1 :: S) Φ) {t u ty:TypeId} {kb:Array Bool} {i:TypeInfo}
  (ht:P.underlying t=some (.slice e)) (hu:P.underlying u=some .string) (hi:P.info? e=some i) (hz:i.zero=some (.int .u8 0)) (hsize:i.size=1) (hby:i.bytes=1) (s:ByteArray)
  (hb:n+s.size<=140737488355328) (h63:n+s.size<=maxLen) :
  ∃ p' cap' w',Sem.run P (builtin Builtin.append #[t,u] ty kb #[.slice p n cap,.string s]) w=.ok (.value (.slice p' (n+s.size) cap')) w'/\Ctx W w' (.buf p' (n+s.size) cap' (cs++Lib.strCells s) e 1 :: S) Φ:=by
 have hown:=c.own _ (List.mem_cons_self)
 obtain ⟨DI,hown⟩:=hown
 have hxl:cs.length=n:=by simpa using DI
 have hlen:(cs++Lib.strCells s).length=(n+s.size)*1:=by rw [List.length_append,hxl,Lib.strCells_length,Nat.mul_one]
 have grown:∀ (old:Nat),old<n+s.size ->
   Ctx W (w.drew.alloc (.cells (cs.toArray++(Lib.strCells s).toArray++Builtin.zeroCells (Value.int .u8 0).cells (grownCap w (n+s.size) old e - (n+s.size))) e))
    (.buf (some ⟨w.heap.size,0,none⟩) (n+s.size) (grownCap w (n+s.size) old e) (cs++Lib.strCells s) e 1 :: S) Φ:=by
  intro old ho
  have hge:=grownCap_ge w (n+s.size) old e
  have hcm:grownCap w (n+s.size) old e<=maxLen:=grownCap_le_maxLen w (n+s.size) old e h63
  have h:=c.upd (k:=0) (o':=.buf (some ⟨w.heap.size,0,none⟩) (n+s.size) (grownCap w (n+s.size) old e) (cs++Lib.strCells s) e 1) rfl (((kD.refl _ _).drewN 1).alloc (.cells (cs.toArray++(Lib.strCells s).toArray++Builtin.zeroCells (Value.int .u8 0).cells (grownCap w (n+s.size) old e - (n+s.size))) e)) (by simp [Own.dom]) (by simp [Own.dom])
   ⟨hlen,.inr ⟨w.heap.size,_,_,rfl,Nat.zero_le _,wO w.drew _,hge,hcm,?_,?_⟩⟩
  ·exact h
  ·have hz1:(Value.int IntKind.u8 0).cells.size=1:=rfl
   simp only [Array.size_append,List.size_toArray,size_zeroCells,hz1,hxl,Lib.strCells_length]
   omega
  ·simp only [Array.toList_append,List.append_assoc]
   rw [<-List.append_assoc,<-hlen]
   exact List.take_left
 rcases hown with ⟨e1,rfl⟩|⟨g,cap',cur,e1,_,hg,hnc,hcm,hcs,xO⟩
 ·cases e1
  have hx:cs=[]:=List.eq_nil_of_length_eq_zero hxl
  subst hx
  by_cases hm:s.size=0
  ·have hn:Lib.strCells s=[]:=List.eq_nil_of_length_eq_zero (by rw [Lib.strCells_length];exact hm)
   refine ⟨none,0,w,kI ?_,by rw [hm,hn];exact c⟩
   have hf:=Lib.run_firstCells_string (P:=P) w 1 s
   rw [hm] at hf
   simp [Builtin.append_,run_underlying ht,run_underlying hu,sizeOf,typeInfo,hi,hsize,Builtin.lenOf,hm,hf]
  ·have hr:=run_append_nil_string (P:=P) w t u ty e i (.int .u8 0) ht hu hi hz s (by omega) (by omega) (by rw [hby];omega)
   have hgr:=grown 0 (by omega)
   simp only [Nat.zero_add,List.nil_append,Array.empty_append] at hgr ⊢
   have e1:(s.data.map λb=>Value.int .u8 b.toNat)=(Lib.strCells s).toArray:=by
    apply Array.ext'
    simp [Lib.strCells]
   rw [e1] at hr
   exact ⟨_,_,_,kI hr,hgr⟩
 ·cases e1
  have b7k:cur.size=cap:=by simpa using hcs
  have ht':cur.toList.take n=cs:=by simpa using xO
  by_cases hroom:n+s.size<=cap
  ·have hr:=Lib.run_append_room_string (P:=P) w t u ty e i ht hu hi hsize g n cap cur hg s hroom (by omega)
   refine ⟨_,_,_,kI hr,?_⟩
   have h:=c.upd (k:=0) (w':=w.setRow g (cur.toList.take n++Lib.strCells s++cur.toList.drop (n+s.size)).toArray) (o':=.buf (some ⟨g,0,none⟩) (n+s.size) cap (cs++Lib.strCells s) e 1) rfl ⟨rfl,rfl,rfl,by simp,λb _ hb=>setRow_other w g b _ (by simpa [Own.dom] using hb)⟩ (by simp [Own.dom]) (by simp [Own.dom])
    ⟨hlen,.inr ⟨g,cap,_,rfl,Nat.zero_le _,setRow_heap w g cur _ e _ hg,hroom,hcm,?_,?_⟩⟩
   ·exact h
   ·simp only [List.size_toArray,List.length_append,List.length_take,List.length_drop,Array.length_toList,Lib.strCells_length]
    omega
   ·rw [ht',<-hlen]
    exact List.take_left
  ·have holds:∀ j u,cs[j]? = some u->w.cell? ((⟨g,0,none⟩:Addr).add j)=some u:=by
    intro j u hj
    have hlt:j<cs.length:=(List.getElem?_eq_some_iff.1 hj).1
    have h2:cur[j]? = some u:=by
     rw [<-ht',List.getElem?_take_of_lt (by omega)] at hj
     simpa using hj
    rw [addr_add,Nat.zero_add]
    simp [World.cell?,hg,h2]
   have hr:=Lib.run_append_grow_string (P:=P) w t u ty e i (.int .u8 0) ht hu hi hz ⟨g,0,none⟩ n cap cs (by rw [hsize];simpa using hxl) holds s (by omega) (by omega) (by rw [hby];exact growslice_fits (by omega) (by omega))
   exact ⟨_,_,_,kI hr,grown cap (by omega)⟩
def Bd (T e:TypeId) (b:Nat) (l:List UInt8) (R:List Own):Prop :=
 ∃ (pa:Value) (p:Option Addr) (cap:Nat),(pa=.pointer none\/pa=.pointer (some ⟨b,0,none⟩))/\R=[.blk b [pa,.slice p l.length cap] T,.buf p l.length cap (Lib.byteCells l) e 1]
theorem Bd.fresh [aA Φ] {T e:TypeId} {b:Nat} (c:Ctx W w (.blk b [.pointer none,.slice none 0 0] T :: S) Φ):Ctx W w ([.blk b [.pointer none,.slice none 0 0] T,.buf none 0 0 [] e 1]++S) Φ :=
 ((c.a8d e 1).perm (List.Perm.swap _ _ _))
theorem Bd.nil {T e:TypeId} {b:Nat}:Bd T e b [] [.blk b [.pointer none,.slice none 0 0] T,.buf none 0 0 [] e 1]:=⟨.pointer none,none,0,.inl rfl,rfl⟩
end
section
open Go.Proofs
variable {P:Program} {ρ:Ren}
theorem a4W {a w:World} {D:List Nat} (h:kD D a w) {p:Addr} (hp:p.block∈D) (n:Nat):kD D a (w.freeze p n):=by
 refine h.trans (T:=D) ?_ (λx hx=>.inl hx)
 unfold World.freeze
 split
 ·exact kD.refl _ _
 ·refine ⟨rfl,rfl,rfl,by simp,λk hk hn=>?_⟩
  simp only [Array.getElem?_modify]
  rw [if_neg (λe=>hn (by rw [<-e];exact hp))]
set_option maxHeartbeats 1000000 in
set_option maxRecDepth 100000 in
theorem I4 (L:Lays.n169 P ρ) (X:Builder.Extra P ρ) (b g cap:Nat) (pa:Value) (l:List UInt8) (w:World) (h0:l≠[]) (hbk:w.heap[b]? = some (.cells #[pa,.slice (some ⟨g,0,none⟩) l.length cap] (ρ.t 72) (0,0)))
  (hown:w.ownsRow 0 (ρ.t 5) 1 (.slice (some ⟨g,0,none⟩) l.length cap) l.length (Lib.byteCells l)) :
  Calls P (ρ.f 169) #[.pointer (some ⟨b,0,none⟩)] w λe w'=>e=.returned (.string ⟨l.toArray⟩)/\kD [g] w w':=by
 have hl0:l.length≠0:=by simpa using h0
 obtain ⟨cur,hg,hnc,hcm,hcs,xO⟩:∃ cur,w.heap[g]? = some (.cells cur (ρ.t 5) (0,0))/\l.length<=cap/\cap<=maxLen/\cur.size=cap*1/\cur.toList.take (l.length*1)=Lib.byteCells l:=by
  rcases hown.2 with ⟨hv,_⟩|⟨g',cap',cur,hv,_,r⟩
  ·cases hv
  ·cases hv;exact ⟨cur,r⟩
 have c1:w.drew.cell? ⟨b,1,none⟩=some (.slice (some ⟨g,0,none⟩) l.length cap):=by
  have:w.drew.heap[b]? = some (.cells #[pa,.slice (some ⟨g,0,none⟩) l.length cap] (ρ.t 72) (0,0)):=hbk
  rw [Lib.cell_of_heap this];rfl
 have hSD:(Builtin.unsafeSliceData_ #[(ρ.t 37)] (ρ.t 127) #[.slice (some ⟨g,0,none⟩) l.length cap]).run P w.drew=.ok (.pointer (some ⟨g,0,none⟩)) w.drew :=
  Lib.run_unsafeSliceData_row _ _ _ _ _ _ (by omega)
 have hUS:(Builtin.unsafeString_ #[(ρ.t 127),(ρ.t 3)] (ρ.t 9) #[.pointer (some ⟨g,0,none⟩),.int .i64 l.length]).run P w.drew=.ok (.string ⟨l.toArray⟩) (w.drew.freeze ⟨g,0,none⟩ l.length):=by
  refine Lib.run_unsafeString_row w.drew (ρ.t 127) (ρ.t 3) (ρ.t 9) (ρ.t 5) L.t127 X.cellsByte g cur.size (by have hg':w.drew.heap[g]? = some (.cells cur (ρ.t 5) (0,0)):=hg;simp [World.shape?,hg']) l h0 (by omega) (by unfold maxLen at hcm;omega) ?_
  intro j x hx
  have:=hown.cells (g:=g) rfl j (.int .u8 x.toNat) (by simp [Lib.byteCells,hx])
  exact this
 have mixed:=L.mixed
 have t72:=L.t72;have a72:=L.a72;have z72:=L.z72;have v72:=L.v72;have u72:=run_underlying L.t72
 have t70:=L.t70;have a70:=L.a70;have z70:=L.z70;have v70:=L.v70;have u70:=run_underlying L.t70
 have t37:=L.t37;have a37:=L.a37;have z37:=L.z37;have v37:=L.v37;have u37:=run_underlying L.t37
 have t127:=L.t127;have a127:=L.a127;have z127:=L.z127;have v127:=L.v127;have aKl:=run_underlying L.t127
 have t3:=L.t3;have a3:=L.a3;have z3:=L.z3;have v3:=L.v3;have u3:=run_underlying L.t3
 have t9:=L.t9;have a9:=L.a9;have z9:=L.z9;have v9:=L.v9;have u9:=run_underlying L.t9
 have t5:=X.t5;have a5:=X.a5;have z5:=X.z5;have v5:=X.v5;have u5:=run_underlying X.t5
 go_enter L.f169,Body.n169_ntmps ρ
 go_wp2
 go_region_o
 all_goals (go_wp2;go_ret;exact ⟨rfl,a4W ((kD.refl _ _).drewN 1) (p:=⟨g,0,none⟩) (by simp) _⟩)
set_option maxHeartbeats 2000000 in
set_option maxRecDepth 100000 in
theorem K3 (L:Lays.n169 P ρ) (X:Builder.Extra P ρ) (b:Nat) (p:Value) (w:World) (hbk:w.heap[b]? = some (.cells #[p,.slice none 0 0] (ρ.t 72) (0,0))) :
  Calls P (ρ.f 169) #[.pointer (some ⟨b,0,none⟩)] w λe w'=>e=.returned (.string ⟨#[]⟩)/\kD [] w w':=by
 have hUS:=Any.unsafeString_none L X
 have c1:w.drew.cell? ⟨b,1,none⟩=some (.slice none 0 0):=by
  have:w.drew.heap[b]? = some (.cells #[p,.slice none 0 0] (ρ.t 72) (0,0)):=hbk
  rw [Lib.cell_of_heap this];rfl
 have hSD:(Builtin.unsafeSliceData_ #[(ρ.t 37)] (ρ.t 127) #[.slice none 0 0]).run P w.drew=.ok (.pointer none) w.drew:=rfl
 have mixed:=L.mixed
 have t72:=L.t72;have a72:=L.a72;have z72:=L.z72;have v72:=L.v72;have u72:=run_underlying L.t72
 have t70:=L.t70;have a70:=L.a70;have z70:=L.z70;have v70:=L.v70;have u70:=run_underlying L.t70
 have t37:=L.t37;have a37:=L.a37;have z37:=L.z37;have v37:=L.v37;have u37:=run_underlying L.t37
 have t127:=L.t127;have a127:=L.a127;have z127:=L.z127;have v127:=L.v127;have aKl:=run_underlying L.t127
 have t3:=L.t3;have a3:=L.a3;have z3:=L.z3;have v3:=L.v3;have u3:=run_underlying L.t3
 have t9:=L.t9;have a9:=L.a9;have z9:=L.z9;have v9:=L.v9;have u9:=run_underlying L.t9
 have t5:=X.t5;have a5:=X.a5;have z5:=X.z5;have v5:=X.v5;have u5:=run_underlying X.t5
 go_enter L.f169,Body.n169_ntmps ρ
 go_wp2
 go_region_o
 all_goals (go_wp2;go_ret;exact ⟨rfl,(kD.refl _ _).drewN 1⟩)
set_option maxHeartbeats 2000000 in
set_option maxRecDepth 100000 in
theorem EA (L:Lays.n169 P ρ) (X:Builder.Extra P ρ) (b g:Nat) (p:Value) (cur:Array Value) (w:World) (hbk:w.heap[b]? = some (.cells #[p,.slice (some ⟨g,0,none⟩) 0 0] (ρ.t 72) (0,0))) (hg:w.heap[g]? = some (.cells cur (ρ.t 5) (0,0))) :
  Calls P (ρ.f 169) #[.pointer (some ⟨b,0,none⟩)] w λe w'=>e=.returned (.string ⟨#[]⟩)/\kD [] w w':=by
 have hUS:=Any.unsafeString_none L X
 have hlt:b<w.heap.size:=by
  rcases Nat.lt_or_ge b w.heap.size with h'|h'
  ·exact h'
  ·simp [Array.getElem?_eq_none h'] at hbk
 have c1:w.drew.cell? ⟨b,1,none⟩=some (.slice (some ⟨g,0,none⟩) 0 0):=by
  have:w.drew.heap[b]? = some (.cells #[p,.slice (some ⟨g,0,none⟩) 0 0] (ρ.t 72) (0,0)):=hbk
  rw [Lib.cell_of_heap this];rfl
 have hSD:(Builtin.unsafeSliceData_ #[(ρ.t 37)] (ρ.t 127) #[.slice (some ⟨g,0,none⟩) 0 0]).run P w.drew=.ok (.pointer (some ⟨w.drew.heap.size,0,none⟩)) (w.drew.alloc (.view ⟨g,0,none⟩ (ρ.t 5))) :=
  Lib.run_unsafeSliceData_zero w.drew _ _ (ρ.t 5) L.t127 ⟨g,0,none⟩ 0 ((ρ.t 5),cur.size) (by have hg':w.drew.heap[g]? = some (.cells cur (ρ.t 5) (0,0)):=hg;simp [World.shape?,hg'])
 have c2:(w.drew.alloc (.view ⟨g,0,none⟩ (ρ.t 5))).cell? ⟨b,1,none⟩=some (.slice (some ⟨g,0,none⟩) 0 0):=by
  have:(w.drew.alloc (.view ⟨g,0,none⟩ (ρ.t 5))).heap[b]? = _:=(Lib.alloc_old w.drew _ b hlt).trans hbk
  rw [Lib.cell_of_heap this];rfl
 have c3:(w.alloc (.view ⟨g,0,none⟩ (ρ.t 5))).drew.cell? ⟨b,1,none⟩=some (.slice (some ⟨g,0,none⟩) 0 0):=c2
 have c0:w.cell? ⟨b,1,none⟩=some (.slice (some ⟨g,0,none⟩) 0 0):=c1
 have mixed:=L.mixed
 have t72:=L.t72;have a72:=L.a72;have z72:=L.z72;have v72:=L.v72;have u72:=run_underlying L.t72
 have t70:=L.t70;have a70:=L.a70;have z70:=L.z70;have v70:=L.v70;have u70:=run_underlying L.t70
 have t37:=L.t37;have a37:=L.a37;have z37:=L.z37;have v37:=L.v37;have u37:=run_underlying L.t37
 have t127:=L.t127;have a127:=L.a127;have z127:=L.z127;have v127:=L.v127;have aKl:=run_underlying L.t127
 have t3:=L.t3;have a3:=L.a3;have z3:=L.z3;have v3:=L.v3;have u3:=run_underlying L.t3
 have t9:=L.t9;have a9:=L.a9;have z9:=L.z9;have v9:=L.v9;have u9:=run_underlying L.t9
 have t5:=X.t5;have a5:=X.a5;have z5:=X.z5;have v5:=X.v5;have u5:=run_underlying X.t5
 go_enter L.f169,Body.n169_ntmps ρ
 go_wp2
 go_region_o
 all_goals (go_wp2;go_ret;exact ⟨rfl,((kD.refl _ _).drewN 1).alloc _⟩)
set_option maxHeartbeats 2000000 in
set_option maxRecDepth 100000 in
theorem I5 (L:Lays.n169 P ρ) (X:Builder.Extra P ρ) (b g cap:Nat) (p:Value) (w:World) (hc0:cap≠0) (hbk:w.heap[b]? = some (.cells #[p,.slice (some ⟨g,0,none⟩) 0 cap] (ρ.t 72) (0,0))) :
  Calls P (ρ.f 169) #[.pointer (some ⟨b,0,none⟩)] w λe w'=>e=.returned (.string ⟨#[]⟩)/\kD [] w w':=by
 have hUS:=Any.unsafeString_none L X
 have c1:w.drew.cell? ⟨b,1,none⟩=some (.slice (some ⟨g,0,none⟩) 0 cap):=by
  have:w.drew.heap[b]? = some (.cells #[p,.slice (some ⟨g,0,none⟩) 0 cap] (ρ.t 72) (0,0)):=hbk
  rw [Lib.cell_of_heap this];rfl
 have hSD:(Builtin.unsafeSliceData_ #[(ρ.t 37)] (ρ.t 127) #[.slice (some ⟨g,0,none⟩) 0 cap]).run P w.drew=.ok (.pointer (some ⟨g,0,none⟩)) w.drew :=
  Lib.run_unsafeSliceData_row _ _ _ _ _ _ hc0
 clear hc0
 have mixed:=L.mixed
 have t72:=L.t72;have a72:=L.a72;have z72:=L.z72;have v72:=L.v72;have u72:=run_underlying L.t72
 have t70:=L.t70;have a70:=L.a70;have z70:=L.z70;have v70:=L.v70;have u70:=run_underlying L.t70
 have t37:=L.t37;have a37:=L.a37;have z37:=L.z37;have v37:=L.v37;have u37:=run_underlying L.t37
 have t127:=L.t127;have a127:=L.a127;have z127:=L.z127;have v127:=L.v127;have aKl:=run_underlying L.t127
 have t3:=L.t3;have a3:=L.a3;have z3:=L.z3;have v3:=L.v3;have u3:=run_underlying L.t3
 have t9:=L.t9;have a9:=L.a9;have z9:=L.z9;have v9:=L.v9;have u9:=run_underlying L.t9
 have t5:=X.t5;have a5:=X.a5;have z5:=X.z5;have v5:=X.v5;have u5:=run_underlying X.t5
 go_enter L.f169,Body.n169_ntmps ρ
 go_wp2
 go_region_o
 all_goals (go_wp2;go_ret;exact ⟨rfl,(kD.refl _ _).drewN 1⟩)
theorem Bd.string {W w:World} {S R:List Own} {Φ:PW} [aA Φ] {b:Nat} {l:List UInt8} (L:Lays.n169 P ρ) (X:Builder.Extra P ρ) (h:Bd (ρ.t 72) (ρ.t 5) b l R) (c:Ctx W w (R++S) Φ) {K:Ending->World->Prop}
  (hk:∀ w',Ctx W w' S Φ->K (.returned (.string ⟨l.toArray⟩)) w'):Calls P (ρ.f 169) #[.pointer (some ⟨b,0,none⟩)] w K:=by
 obtain ⟨pa,p,cap,hpa,rfl⟩:=h
 have hbk:w.heap[b]? = some (.cells #[pa,.slice p l.length cap] (ρ.t 72) (0,0)):=c.blk 0 rfl
 have hown:w.ownsRow 0 (ρ.t 5) 1 (.slice p l.length cap) l.length (Lib.byteCells l):=c.own _ (List.mem_cons_of_mem _ List.mem_cons_self)
 by_cases h0:l=[]
 ·subst h0
  rcases hown.2 with ⟨e,_⟩|⟨g,cap',cur,e,_,hg,_⟩
  ·cases e
   exact (K3 L X b pa w hbk).mono λe w' ⟨he,hc⟩=>by subst he;exact hk w' (c.lose (hc.mono (by simp)))
  ·cases e
   by_cases hc0:cap=0
   ·subst hc0
    exact (EA L X b g pa cur w hbk hg).mono λe w' ⟨he,hc⟩=>by subst he;exact hk w' (c.lose (hc.mono (by simp)))
   ·exact (I5 L X b g cap pa w hc0 hbk).mono λe w' ⟨he,hc⟩=>by subst he;exact hk w' (c.lose (hc.mono (by simp)))
 ·have hl0:l.length≠0:=by simpa using h0
  obtain ⟨g,rfl⟩:∃ g,p=some ⟨g,0,none⟩:=by
   rcases hown.2 with ⟨_,hz⟩|⟨g,cap',cur,hv,_⟩
   ·exact absurd hz hl0
   ·cases hv;exact ⟨g,rfl⟩
  exact (I4 L X b g cap pa l w h0 hbk hown).mono λe w' ⟨he,hc⟩=>by subst he;exact hk w' (c.lose (hc.mono (by simp [dom,Own.dom])))
end
def Tab (P:Program) (name:String) (k:IntKind) (zs:List Int):PW:=λM w=>Lib.TabIs P w name k zs/\∀ g,P.globalNamed name=some g->g ∉ M
instance aET (P:Program) (name:String) (k:IntKind) (zs:List Int):aA (Tab P name k zs):=⟨fun {M M' w w'} hs h=>by
 obtain ⟨h1,h2⟩:=h
 unfold Lib.TabIs World.var? at h1
 cases hg:P.globalNamed name with
 | none=>simp [hg] at h1
 | some g =>
  simp only [hg,Option.bind_some] at h1
  have hlt:g<w.heap.size:=by
   rcases Nat.lt_or_ge g w.heap.size with h'|h'
   ·exact h'
   ·rw [Array.getElem?_eq_none h'] at h1;simp at h1
  refine ⟨?_,λg' hg' hm=>?_⟩
  ·unfold Lib.TabIs World.var?
   simp only [hg,Option.bind_some]
   rw [hs.XO.block g hlt (h2 g hg)]
   exact h1
  ·rw [hg] at hg'
   cases hg'
   rcases hs.sub g hm with h|h
   ·exact h2 g hg h
   ·omega⟩
theorem Tab.start {P:Program} {name:String} {k:IntKind} {zs:List Int} {w:World} (h:Lib.TabIs P w name k zs):Tab P name k zs [] w:=⟨h,λ_ _=>by simp⟩
theorem aBl {w:World} {k:Nat} {os:Array Obj}:kD [] w (Sort.grow (w.drewN k) os) :=
 ⟨rfl,rfl,rfl,by show w.heap.size<=(w.heap++os).size;rw [Array.size_append];omega,λj hj _=>by
  show (w.heap++os)[j]? = w.heap[j]?
  rw [Array.getElem?_append_left hj]⟩
theorem aFI {P : Program} {f : FuncId} {Φ : PW} [aA Φ] {name : String} (hI : ∀ (n : Int), -9223372036854775808 <= n -> n <= 9223372036854775807 -> ∀ w, Lib.TabIs P w name .u64 Lib.pow10Tab ->
   Calls P f #[.int .i64 n] w λe w'=>e=.returned (.string ⟨(Lib.itoa n).toArray⟩)/\∃ k os,w'=Sort.grow (w.drewN k) os)
  (eT:∀ M w,Φ M w->Tab P name .u64 Lib.pow10Tab M w) (n:Int) (h:aR n):aU Φ P f #[.int .i64 n] (.string ⟨(Lib.itoa n).toArray⟩) :=
 ⟨λW w S c=>(hI n (by unfold aR at h;omega) (by unfold aR at h;omega) w (eT _ _ c.gW).1).mono λe w' ⟨he,k,os,hw⟩=>⟨he,by rw [hw];exact c.call aBl⟩⟩
open Go.ChangeShapes Go.WideShapes Go.ChangeAt
theorem a2u {H:Type} {enc:TypeId × Value->H} {C:Checked} {os:Os} {f:FuncId} {fn:Func} {s:ChangeSpec} {conds:List PathCond} {apart fresh handsOn:Bool} {tb:TypeId} {ld:List (String × DataW Unit)}
  (own:ownKnob C.prog.godebug=none) (started:os.Started) (noInit:C.prog.inits.idxOf? f=none) (hfn:C.prog.funcs[f]? = some fn)
  (laid:laidOutB C.prog=true) (hvars:s.vars=[]) (hspec:∀ ds:List (DataW H),ds.length=fn.params.toList.length->(s.fn H (ds++[])).results=[.lit (.bool true)]/\(s.fn H (ds++[])).args=ds/\(s.fn H (ds++[])).vars=[])
  (hres:fn.resultTypes=#[tb]) (htb:C.prog.underlying tb=some .bool)
  (types:(fn.params.toList.all λt=>C.prog.readableRec t&&decide (t<C.prog.types.size))=true)
  (witness:∃ (w:World) (tape:Tape) (i:Input),w.os=os/\(w.forCall tape i).Shaped C.prog/\i.vars=[]/\Input.okWide C.prog (w.forCall tape i) .any w.heap.size f i /\
   ((s.pre enc C.prog fn conds apart (w.forCall tape i).memory i.args/\laidMetH C.prog ld (w.forCall tape i).memory)/\sizedMet enc C.prog fn (OpenSpec.ofChange s) apart (w.forCall tape i).memory i.args)/\Assume.holds {} C.prog (lone (Frame.enter C.prog f i.args .normal) [] (w.forCall tape i)))
  (contract:∀ (W:World) (base:Nat) (args:Array Value) (ds:List (DataW H)) (p:List MemPlace),
   (∀ (j:Nat) t v,fn.params[j]? = some t->args[j]? = some v->Value.okWide C.prog W .any base t v) ->
   DataW.TrodAll enc C.prog W 0 (λ_=>true) true fn.params.toList args.toList ds p ->
   conds.all (PathCond.test C.prog ⟨fn.params.toList,ds,s.plain.varTypes C.prog,[]⟩)=true->laidMetH C.prog ld W ->
   Calls C.prog f args W λe W'=>∃ u,e=.returned u/\(u=.bool true/\kD [] W W')) :
  ReturnsInHanded {} C os f .any (λw args=>(s.pre enc C.prog fn conds apart w args/\laidMetH C.prog ld w)/\sizedMet enc C.prog fn (OpenSpec.ofChange s) apart w args) (s.post enc C.prog fn apart fresh handsOn false):=by
 refine returnsInHanded_of_change_and (X:=λw _=>laidMetH C.prog ld w) (λ_ _ _ hh h=>h.of_heap hh) own started noInit hfn witness ?_
 intro W base args ds gs before hval hW aYN _ hL _
 have hW':=hW
 obtain ⟨p,q,hA,hV,rfl,_,_⟩:=hW
 rw [hvars] at hV
 obtain ⟨rfl,rfl⟩:=trodVars_none hV
 simp only [List.append_nil] at hW'
 refine (contract W base args ds p hval hA aYN hL).mono λe W' ⟨u,he,hu,hc⟩=>?_
 subst he;subst hu
 have hb:Below W.heap.size W W':=hc.below (Nat.le_refl _) (by simp)
 obtain ⟨e1,e2,e3⟩:=hspec ds (EX hA).2
 refine ⟨_,rfl,ds,[],p,[],p,[],hW',?_,?_,?_,hb.frame _,λh=>by cases h⟩
 ·rw [e1,hres]
  exact trodAll_mk1 (t:=tb) (v:=.bool true) ⟨1,by simp [DataW.trod,Value.cells,htb]⟩
 ·rw [e2]
  exact IP laid hb types hA (λx hx=>by simpa using hW'.lt x hx)
 ·rw [e3,hvars]
  rfl
end Go.Vc
end

section
namespace Go.Vc
section
variable {P:Program} {W w:World} {R G:List Own} {Φ Ψ:PW} {f:FuncId} {args:Array Value}
class Has (Φ Ψ:PW):Prop where
 go:∀ M w,Φ M w->Ψ M w
instance (priority:=2000) aXE (Φ:PW):Has Φ Φ:=⟨λ_ _ h=>h⟩
instance (priority:=900) b7l (A B Ψ:PW) [h:Has A Ψ]:Has (λM w=>A M w/\B M w) Ψ:=⟨λM w x=>h.go M w x.1⟩
instance (priority:=1000) b7m (A B Ψ:PW) [h:Has B Ψ]:Has (λM w=>A M w/\B M w) Ψ:=⟨λM w x=>h.go M w x.2⟩
instance aXF (Φ:PW):Has Φ (λ_ _=>True):=⟨λ_ _ _=>trivial⟩
instance (priority:=800) aYP (Φ A B:PW) [h:Has Φ A] [k:Has Φ B]:Has Φ (λM w=>A M w/\B M w):=⟨λM w x=>⟨h.go M w x,k.go M w x⟩⟩
theorem Ctx.has (c:Ctx W w R Φ) [h:Has Φ Ψ]:Ctx W w R Ψ:=c.weak h.go
theorem jP.to [aA Φ] {α:Type} [Gv α] {l:List α} (h:jP Φ P f args l id) (c:Ctx W w (R++G) Φ) {K:Option Addr->Nat->Nat->List Own->PW->Prop}
  (hk:∀ p cap,l.length<=cap->cap<=maxLen->aA (λM w=>Φ M w/\Sl M w p l)->K p l.length cap R (λM w=>Φ M w/\Sl M w p l)) :
  Calls P f args w λe w'=>∃ p n c,e=.returned (.slice p n c)/\∃ R' aF,aA aF/\Ctx W w' (R'++G) aF/\K p n c R' aF :=
 h.use c λp cap w' h1 h2 c=>⟨p,_,cap,rfl,R,_,inferInstance,c,hk p cap h1 h2 inferInstance⟩
theorem aU.toB [aA Φ] {b:Bool} (h:aU Φ P f args (.bool b)) (c:Ctx W w (R++G) Φ) {K:Bool->List Own->PW->Prop} (hk:K b R Φ) :
  Calls P f args w λe w'=>∃ c,e=.returned (.bool c)/\∃ R' aF,aA aF/\Ctx W w' (R'++G) aF/\K c R' aF :=
 h.use c λw' c=>⟨b,rfl,R,Φ,inferInstance,c,hk⟩
theorem aU.WW [aA Φ] {n:Int} {k:IntKind} (h:aU Φ P f args (.int k n)) (c:Ctx W w (R++G) Φ) {K:Int->List Own->PW->Prop} (hk:K n R Φ) :
  Calls P f args w λe w'=>∃ c,e=.returned (.int k c)/\∃ R' aF,aA aF/\Ctx W w' (R'++G) aF/\K c R' aF :=
 h.use c λw' c=>⟨n,rfl,R,Φ,inferInstance,c,hk⟩
theorem aU.TV [aA Φ] {s:ByteArray} (h:aU Φ P f args (.string s)) (c:Ctx W w (R++G) Φ) {K:ByteArray->List Own->PW->Prop} (hk:K s R Φ) :
  Calls P f args w λe w'=>∃ c,e=.returned (.string c)/\∃ R' aF,aA aF/\Ctx W w' (R'++G) aF/\K c R' aF :=
 h.use c λw' c=>⟨s,rfl,R,Φ,inferInstance,c,hk⟩
theorem fin [aA Φ] [aA Ψ] [hw:Has Ψ Φ] {v:Value} (c:Ctx W w (R++G) Ψ):v=v/\Ctx W w R Φ:=⟨rfl,(Ctx.has c).left⟩
end
end Go.Vc
end

section
namespace Go.Vc
structure aBm where
 key:Int × ByteArray
 val:Int
 born:Nat
abbrev aFJ (k:Int × ByteArray):Value:=.agg #[.int .i64 k.1,.string k.2]
def aBm.m (e:aBm):MapEntry:=⟨aFJ e.key,.int .i64 e.val,e.born⟩
def getM:List aBm->Int × ByteArray->Int
 | [],_=>0
 | e :: es,k=>if k=e.key then e.val else getM es k
structure aOF (es:List aBm) (clock:Nat):Prop where
 keys:es.Pairwise λa b=>a.key≠b.key
 rW:es.Pairwise λa b=>a.born≠b.born
 lt:∀ e∈es,e.born<clock
structure aOG (P:Program) (t k e:TypeId):Prop where
 map:P.underlying t=some (.map k e)
 str:∃ fs,P.underlying k=some (.struct fs)
 chk:∀ b x w,(Instr.checkKey b 10000 k (aFJ x)).run P w=.ok () w
 eq:∀ x y w,(Op.equal k (aFJ x) (aFJ y)).run P w=.ok (decide (x=y)) w
 zero:∀ w,(zeroValue e).run P w=.ok (.int .i64 0) w
section
variable {P:Program} {t k e:TypeId} (T:aOG P t k e)
include T
omit T
theorem pU {α β:Type} {f:α->β}:∀ {l:List α},l.Pairwise (λa b=>f a≠f b)->∀ {a b:α},a∈l->b∈l->f a=f b->a=b
 | [],_,_,_,ha,_,_=>by cases ha
 | x :: l,h,a,b,ha,hb,e=>by
  obtain ⟨h1,h2⟩:=List.pairwise_cons.1 h
  rcases List.mem_cons.1 ha with ea|ha
  ·rcases List.mem_cons.1 hb with eb|hb
   ·rw [ea,eb]
   ·exact absurd (by rw [<-ea];exact e) (h1 b hb)
  ·rcases List.mem_cons.1 hb with eb|hb
   ·exact absurd (by rw [<-eb];exact e.symm) (h1 a ha)
   ·exact pU h2 ha hb e
theorem TW {α:Type} {p:α->Bool}:∀ {l:List α} {a:α},a∈l->p a=true->(∀ c∈l,p c=true->c=a)->∃ n,l.findIdx? p=some n/\l[n]? = some a
 | [],_,h,_,_=>by cases h
 | x :: l,a,h,hp,hu=>by
  rw [List.findIdx?_cons]
  by_cases hx:p x=true
  ·rw [if_pos hx]
   exact ⟨0,rfl,by rw [hu x (by simp) hx];rfl⟩
  ·rw [if_neg hx]
   rcases List.mem_cons.1 h with rfl|h
   ·exact absurd hp hx
   ·obtain ⟨n,h1,h2⟩:=TW h hp λc hc=>hu c (by simp [hc])
    exact ⟨n+1,by rw [h1];rfl,by simpa using h2⟩
include T
end
section
variable {P:Program} {W w:World} {Q R G:List Own} {Φ Ψ:PW} {f:FuncId} {args:Array Value}
structure jU (Q:List Own) (Φ:PW) (P:Program) (f:FuncId) (args:Array Value) (v:Value):Prop where
 go:∀ (W w:World) (S:List Own),Ctx W w (Q++S) Φ->Calls P f args w λe w'=>e=.returned v/\Ctx W w' (Q++S) Φ
structure aOH (Q:List Own) (Φ:PW) (P:Program) (f:FuncId) (args:Array Value) {α:Type} [Gv α] (l:List α):Prop where
 go:∀ (W w:World) (S:List Own),Ctx W w (Q++S) Φ->Calls P f args w λe w'=>∃ p cap,e=.returned (.slice p l.length cap)/\l.length<=cap/\cap<=maxLen/\Ctx W w' (Q++S) (λM w=>Φ M w/\Sl M w p l)
theorem rX [aA Φ] {v:Value} {B:World->List Own->PW->(Value->World->Prop)->Prop}
  (run:∀ {W w:World} {R:List Own} {Φ:PW} [aA Φ] {J:Value->World->Prop},Ctx W w R Φ->B W R Φ J->Calls P f args w λe w'=>∃ v,e=.returned v/\J v w')
  (h:∀ (W:World) (R:List Own),B W (Q++R) Φ λu w'=>u=v/\Ctx W w' (Q++R) Φ):jU Q Φ P f args v :=
 ⟨λW w S c=>EW (run c (h W S)) λu w' ⟨h1,h2⟩=>⟨by rw [h1],h2⟩⟩
theorem Ctx.inl (c:Ctx W w ((Q++R)++G) Φ):Ctx W w (Q++(R++G)) Φ:=c.re (List.append_assoc _ _ _)
theorem Ctx.aKm (c:Ctx W w (Q++(R++G)) Φ):Ctx W w ((Q++R)++G) Φ:=c.re (List.append_assoc _ _ _).symm
theorem jU.toB [aA Φ] {b:Bool} (h:jU Q Φ P f args (.bool b)) (c:Ctx W w ((Q++R)++G) Φ) {K:Bool->List Own->PW->Prop} (hk:K b (Q++R) Φ) :
  Calls P f args w λe w'=>∃ c,e=.returned (.bool c)/\∃ R' aF,aA aF/\Ctx W w' (R'++G) aF/\K c R' aF :=
 (h.go W w (R++G) c.inl).mono λe w' ⟨he,c'⟩=>⟨b,he,Q++R,Φ,inferInstance,c'.aKm,hk⟩
theorem jU.WW [aA Φ] {n:Int} {k:IntKind} (h:jU Q Φ P f args (.int k n)) (c:Ctx W w ((Q++R)++G) Φ) {K:Int->List Own->PW->Prop} (hk:K n (Q++R) Φ) :
  Calls P f args w λe w'=>∃ n,e=.returned (.int k n)/\∃ R' aF,aA aF/\Ctx W w' (R'++G) aF/\K n R' aF :=
 (h.go W w (R++G) c.inl).mono λe w' ⟨he,c'⟩=>⟨n,he,Q++R,Φ,inferInstance,c'.aKm,hk⟩
theorem jU.TV [aA Φ] {s:ByteArray} (h:jU Q Φ P f args (.string s)) (c:Ctx W w ((Q++R)++G) Φ) {K:ByteArray->List Own->PW->Prop} (hk:K s (Q++R) Φ) :
  Calls P f args w λe w'=>∃ s,e=.returned (.string s)/\∃ R' aF,aA aF/\Ctx W w' (R'++G) aF/\K s R' aF :=
 (h.go W w (R++G) c.inl).mono λe w' ⟨he,c'⟩=>⟨s,he,Q++R,Φ,inferInstance,c'.aKm,hk⟩
end
end Go.Vc
end

section
namespace Go.Vc
variable {κ ν:Type} [DecidableEq κ] {kv:κ->Value} {vv:ν->Value} {z:ν}
structure bE (κ ν:Type) where
 key:κ
 val:ν
 born:Nat
def bE.m (kv:κ->Value) (vv:ν->Value) (e:bE κ ν):MapEntry:=⟨kv e.key,vv e.val,e.born⟩
def cA (kv:κ->Value) (vv:ν->Value) (es:List (bE κ ν)) (clock:Nat):Obj:=.map (es.map (bE.m kv vv)).toArray clock
def hY (z:ν):List (bE κ ν)->κ->ν
 | [],_=>z
 | e :: es,k=>if k=e.key then e.val else hY z es k
def yD (vv:ν->Value):List (bE κ ν)->κ->Nat->Option (Nat × Value)
 | [],_,_=>none
 | e :: es,k,i=>if k=e.key then some (i,vv e.val) else yD vv es k (i+1)
structure GOk (es:List (bE κ ν)) (clock:Nat):Prop where
 keys:es.Pairwise λa b=>a.key≠b.key
 rW:es.Pairwise λa b=>a.born≠b.born
 lt:∀ e∈es,e.born<clock
structure GTy (P:Program) (t k e:TypeId) (kv:κ->Value) (vv:ν->Value) (z:ν):Prop where
 map:P.underlying t=some (.map k e)
 find:∀ (x:κ) (es:List (bE κ ν)) w,(Instr.findKey k (kv x) (es.map (bE.m kv vv))).run P w=.ok (yD vv es x 0) w
 chk:∀ b x w,(Instr.checkKey b 10000 k (kv x)).run P w=.ok () w
 stays:∀ x w,(Instr.keyThatStays (kv x) (kv x)).run P w=.ok (kv x) w
 zero:∀ w,(zeroValue e).run P w=.ok (vv z) w
theorem tY:∀ {es:List (bE κ ν)} {k:κ} {i:Nat},yD vv es k i=none->∀ e∈es,e.key≠k
 | [],_,_,_,e,he=>by cases he
 | x :: es,k,i,h,e,he=>by
  unfold yD at h
  split at h
  ·cases h
  ·rename_i hk
   rcases List.mem_cons.1 he with rfl|he
   ·exact λe=>hk e.symm
   ·exact tY h e he
theorem qZ:∀ {es:List (bE κ ν)} {k:κ},(∀ e∈es,e.key≠k)->hY z es k=z
 | [],_,_=>rfl
 | x :: es,k,h=>by
  unfold hY
  rw [if_neg λe=>h x (by simp) e.symm]
  exact qZ λe he=>h e (by simp [he])
theorem tZ:∀ {es:List (bE κ ν)} {k:κ} {i j:Nat} {v:Value},yD vv es k i=some (j,v)->∃ n e,j=i+n/\es[n]? = some e/\e.key=k/\v=vv e.val/\hY z es k=e.val
 | [],_,_,_,_,h=>by cases h
 | x :: es,k,i,j,v,h=>by
  unfold yD at h
  split at h
  ·rename_i hk
   cases h
   exact ⟨0,x,rfl,rfl,hk.symm,rfl,by unfold hY;rw [if_pos hk]⟩
  ·rename_i hk
   obtain ⟨n,e,h1,h2,h3,h4,h5⟩:=tZ h
   exact ⟨n+1,e,by omega,by simpa using h2,h3,h4,by unfold hY;rw [if_neg hk];exact h5⟩
section
variable {P:Program} {t k e:TypeId} (T:GTy P t k e kv vv z)
include T
theorem uS {w:World} {b:Nat} {es:List (bE κ ν)} {clock:Nat} (hb:w.heap[b]? = some (cA kv vv es clock)) (x:κ) :
  Sem.run P (Instr.lookup t (.map (some b)) (kv x) false) w=.ok (vv (hY z es x)) w:=by
 have h1:=T.find x es w
 unfold cA at hb
 unfold Instr.lookup
 simp only [Sem.run_bind,run_underlying T.map,MapKept.run_getObj_map hb,Result.andThen,T.chk,Sem.run_pure,h1]
 cases hf:yD vv es x 0 with
 | none=>simp only [Sem.run_bind,T.zero,Result.andThen,Sem.run_pure,qZ (tY hf)];rfl
 | some r =>
  obtain ⟨j,v⟩:=r
  obtain ⟨n,e',_,_,_,hv,hg⟩:=tZ (z:=z) hf
  simp only [Sem.run_pure,Result.andThen]
  rw [hg,hv];rfl
theorem a4X {w:World} {b:Nat} {es:List (bE κ ν)} {clock:Nat} (ok:GOk es clock) (hb:w.heap[b]? = some (cA kv vv es clock)) (x:κ) :
  ∃ fU TX s,Sem.run P (Instr.mapEntry t (.map (some b)) (kv x)) w=.ok (.tuple #[vv (hY z es x),.int .i64 (s:Nat)]) (CJ w b (cA kv vv fU TX))/\GOk fU TX/\(∀ y,hY z fU y=hY z es y)/\∃ a∈fU,a.key=x/\a.born=s:=by
 have h1:=T.find x es w
 unfold cA at hb
 cases hf:yD vv es x 0 with
 | none =>
  have hn:=tY hf
  refine ⟨es++[⟨x,z,clock⟩],clock+1,clock,?_,⟨?_,?_,?_⟩,λy=>?_,⟨x,z,clock⟩,by simp,rfl,rfl⟩
  ·have h3:=MapKept.run_setObj_map (P:=P) (.map ((es.map (bE.m kv vv)).toArray.push ⟨kv x,vv z,clock⟩) (clock+1)) hb
   unfold Instr.mapEntry
   rw [hf] at h1
   simp only [Sem.run_bind,run_underlying T.map,MapKept.run_getObj_map hb,Result.andThen,T.chk,Sem.run_pure,h1,T.zero,h3]
   rw [qZ hn]
   congr 2
   unfold cA
   simp [bE.m]
  ·exact List.pairwise_append.2 ⟨ok.keys,by simp,λa ha c hc=>by rw [List.mem_singleton.1 hc];exact hn a ha⟩
  ·exact List.pairwise_append.2 ⟨ok.rW,by simp,λa ha c hc=>by rw [List.mem_singleton.1 hc];exact Nat.ne_of_lt (ok.lt a ha)⟩
  ·intro a ha
   rcases List.mem_append.1 ha with ha|ha
   ·have:=ok.lt a ha;omega
   ·rw [List.mem_singleton.1 ha];exact Nat.lt_succ_self _
  ·clear hb h1 hf ok
   induction es with
   | nil=>simp [hY]
   | cons a es ih =>
    rw [List.cons_append]
    unfold hY
    split
    ·rfl
    ·exact ih λe he=>hn e (by simp [he])
 | some r =>
  obtain ⟨j,v⟩:=r
  obtain ⟨n,a,hj,ha,hk,hv,hg⟩:=tZ (z:=z) hf
  have hj:j=n:=by omega
  subst hj
  refine ⟨es,clock,a.born,?_,ok,λ_=>rfl,a,List.mem_of_getElem? ha,hk,rfl⟩
  have ha2:(es.map (bE.m kv vv)).toArray[j]? = some (bE.m kv vv a):=by simp [ha]
  have h3:=MapKept.run_setObj_map (P:=P) (.map ((es.map (bE.m kv vv)).toArray.modify j λe=>{ e with key:=kv x }) clock) hb
  unfold Instr.mapEntry
  rw [hf] at h1
  simp only [Sem.run_bind,run_underlying T.map,MapKept.run_getObj_map hb,Result.andThen,T.chk,Sem.run_pure,h1,ha2,Option.map_some,Option.getD_some]
  rw [show (bE.m kv vv a).key=kv x by rw [<-hk];rfl,T.stays x w]
  simp only [h3]
  rw [hg,hv]
  congr 2
  unfold cA
  refine congrArg (λa=>w.heap.setIfInBounds b (Obj.map a clock)) ?_
  apply Array.ext
  ·simp
  ·intro i hi1 hi2
   rw [Array.getElem_modify]
   split
   ·rename_i e
    subst e
    have:(es.map (bE.m kv vv)).toArray[j]=bE.m kv vv a:=by
     have:=Array.getElem?_eq_getElem (xs:=(es.map (bE.m kv vv)).toArray) hi2
     rw [ha2] at this
     exact (Option.some.inj this).symm
    rw [this,<-hk];rfl
   ·rfl
omit T
theorem a2v {s:Nat} {v:ν} {x:κ}:∀ {es:List (bE κ ν)},(∀ a∈es,a.born=s ↔ a.key=x)->∀ y,hY z (es.map λa=>if a.born=s then { a with val:=v } else a) y=if y=x/\∃ a∈es,a.key=x then v else hY z es y
 | [],_,y=>by simp [hY]
 | a :: es,h,y=>by
  have ih:=a2v (v:=v) (es:=es) (λa ha=>h a (by simp [ha])) y
  rw [List.map_cons]
  unfold hY
  by_cases h1:a.born=s
  ·have hk:=(h a (by simp)).1 h1
   rw [if_pos h1]
   simp only
   by_cases h2:y=a.key
   ·rw [if_pos h2,if_pos ⟨h2.trans hk,a,by simp,hk⟩]
   ·rw [if_neg h2,if_neg h2,ih,if_neg λe=>h2 (e.1.trans hk.symm),if_neg λe=>h2 (e.1.trans hk.symm)]
  ·have hk:¬ a.key=x:=λe=>h1 ((h a (by simp)).2 e)
   rw [if_neg h1]
   by_cases h2:y=a.key
   ·rw [if_pos h2,if_pos h2,if_neg λe=>hk (h2.symm.trans e.1)]
   ·rw [if_neg h2,if_neg h2,ih]
    by_cases h3:y=x/\∃ c∈es,c.key=x
    ·rw [if_pos h3]
     obtain ⟨h4,c,h5,h6⟩:=h3
     rw [if_pos ⟨h4,c,by simp [h5],h6⟩]
    ·rw [if_neg h3,if_neg λe=>h3 ⟨e.1,by
      obtain ⟨c,h5,h6⟩:=e.2
      rcases List.mem_cons.1 h5 with rfl|h5
      ·exact absurd h6 hk
      ·exact ⟨c,h5,h6⟩⟩]
theorem a4Y {w:World} {b:Nat} {es:List (bE κ ν)} {clock s:Nat} {x:κ} (t:TypeId) (ok:GOk es clock) (hx:∃ a∈es,a.key=x/\a.born=s) (hb:w.heap[b]? = some (cA kv vv es clock)) (v:ν) :
  ∃ fU,Sem.run P (Instr.entryStore t (.map (some b)) (.int .i64 (s:Nat)) (vv v)) w=.ok () (CJ w b (cA kv vv fU clock))/\GOk fU clock/\∀ y,hY z fU y=if y=x then v else hY z es y:=by
 obtain ⟨a,ha,hk,hs⟩:=hx
 have hiff:∀ c∈es,c.born=s ↔ c.key=x:=λc hc=>⟨λh=>by rw [pU ok.rW hc ha (h.trans hs.symm)];exact hk,λh=>by rw [pU ok.keys hc ha (h.trans hk.symm)];exact hs⟩
 refine ⟨es.map λa=>if a.born=s then { a with val:=v } else a,?_,⟨?_,?_,?_⟩,λy=>?_⟩
 ·unfold cA at hb
  obtain ⟨n,h1,h2⟩:=TW (p:=λe:MapEntry=>(e.born:Int) == ((s:Nat):Int)) (l:=es.map (bE.m kv vv)) (a:=bE.m kv vv a) (List.mem_map.2 ⟨a,ha,rfl⟩) (by
    show ((a.born:Int) == _)=true
    rw [hs];simp) (λc hc hcb=>by
   obtain ⟨c',VX,rfl⟩:=List.mem_map.1 hc
   have:c'.born=s:=by
    have h:((c'.born:Int) == ((s:Nat):Int))=true:=hcb
    simp at h;omega
   rw [pU ok.rW VX ha (this.trans hs.symm)])
  have h3:=MapKept.run_setObj_map (P:=P) (.map ((es.map (bE.m kv vv)).toArray.modify n λe=>{ e with val:=vv v }) clock) hb
  have h0:(asIntOf (.int .i64 ((s:Nat):Int))).run P w=.ok (.i64,((s:Nat):Int)) w:=rfl
  unfold Instr.entryStore
  simp only [Sem.run_bind,MapKept.run_getObj_map hb,Result.andThen,Sem.run_pure,asInt]
  have h4:Array.findIdx? (λe:MapEntry=>(e.born:Int) == ((s:Nat):Int)) (es.map (bE.m kv vv)).toArray=some n:=by simpa using h1
  simp only [h0,h4,h3]
  congr 2
  unfold cA
  refine congrArg (λa=>w.heap.setIfInBounds b (Obj.map a clock)) ?_
  have h2':es[n]? = some a:=by
   rw [List.getElem?_map] at h2
   cases he:es[n]? with
   | none=>rw [he] at h2;cases h2
   | some c =>
    rw [he] at h2
    have hb2:c.born=a.born:=congrArg MapEntry.born (Option.some.inj h2)
    rw [pU ok.rW (List.mem_of_getElem? he) ha hb2]
  apply Array.ext
  ·simp
  ·intro i hi1 hi2
   have hi3:i<es.length:=by simpa using hi1
   rw [Array.getElem_modify]
   simp only [List.getElem_toArray,List.getElem_map]
   split
   ·rename_i e
    subst e
    have:es[n]=a:=by
     have:=List.getElem?_eq_getElem hi3
     rw [h2'] at this
     exact (Option.some.inj this).symm
    rw [this,if_pos hs];rfl
   ·rename_i e
    rw [if_neg]
    intro hbi
    have hea:=pU ok.rW (List.getElem_mem hi3) ha (hbi.trans hs.symm)
    have hn:n<es.length:=(List.getElem?_eq_some_iff.1 h2').1
    have hp:=ok.rW
    rw [List.pairwise_iff_getElem] at hp
    have hna:es[n]=a:=(List.getElem?_eq_some_iff.1 h2').2
    rcases Nat.lt_or_gt_of_ne e with h|h
    ·exact hp n i hn hi3 h (by rw [hna,hea])
    ·exact hp i n hi3 hn h (by rw [hna,hea])
 ·refine List.pairwise_map.2 (ok.keys.imp fun {a b} h=>?_)
  split<;>split<;>exact h
 ·refine List.pairwise_map.2 (ok.rW.imp fun {a b} h=>?_)
  split<;>split<;>exact h
 ·intro c hc
  obtain ⟨c',VX,rfl⟩:=List.mem_map.1 hc
  have:=ok.lt c' VX
  split<;>exact this
 ·rw [a2v hiff y]
  by_cases h:y=x
  ·rw [if_pos ⟨h,a,ha,hk⟩,if_pos h]
  ·rw [if_neg λe=>h e.1,if_neg h]
omit [DecidableEq κ] in
theorem TY:∀ (es:List (bE κ ν)) (j:Nat),(es.map (bE.m kv vv)).eraseIdx j=(es.eraseIdx j).map (bE.m kv vv)
 | [],_=>rfl
 | _ :: _,0=>rfl
 | a :: es,j+1=>by
  rw [List.map_cons,List.eraseIdx_cons_succ,List.eraseIdx_cons_succ,List.map_cons,TY es j]
theorem TZ {x:κ}:∀ {es:List (bE κ ν)} {n:Nat} {a:bE κ ν},es.Pairwise (λa b=>a.key≠b.key)->es[n]? = some a->a.key=x->∀ y,hY z (es.eraseIdx n) y=if y=x then z else hY z es y
 | [],_,_,_,h,_,_=>by simp at h
 | c :: es,0,a,hp,h,hk,y=>by
  have:c=a:=by simpa using h
  subst this
  rw [List.eraseIdx_cons_zero]
  obtain ⟨h1,_⟩:=List.pairwise_cons.1 hp
  by_cases hy:y=x
  ·rw [if_pos hy,hy]
   exact qZ λe he h2=>h1 e he (hk.trans h2.symm)
  ·rw [if_neg hy]
   unfold hY
   rw [if_neg λe=>hy (e.trans hk)]
   cases es<;>rfl
 | c :: es,n+1,a,hp,h,hk,y=>by
  obtain ⟨h1,h2⟩:=List.pairwise_cons.1 hp
  have h':es[n]? = some a:=by simpa using h
  have ih:=TZ h2 h' hk y
  rw [List.eraseIdx_cons_succ]
  unfold hY
  by_cases hy:y=c.key
  ·rw [if_pos hy,if_pos hy,if_neg]
   intro e
   exact h1 a (List.mem_of_getElem? h') (hy.symm.trans (e.trans hk.symm))
  ·rw [if_neg hy,if_neg hy]
   exact ih
include T
end
section
variable {P:Program} {t k e:TypeId} (T:GTy P t k e kv vv z)
omit [DecidableEq κ] in
theorem OG (n:Nat) (v:ν):∀ (es:List (bE κ ν)),(es.modify n λa=>{ a with val:=v }).map bE.key=es.map bE.key:=λes=>by
 apply List.ext_getElem?
 intro i
 rw [List.getElem?_map,List.getElem?_map,List.getElem?_modify]
 cases es[i]? with
 | none=>rfl
 | some a=>by_cases h:n=i<;>simp [h]
omit [DecidableEq κ] in
theorem yE (n:Nat) (v:ν):∀ (es:List (bE κ ν)),(es.modify n λa=>{ a with val:=v }).map bE.born=es.map bE.born:=λes=>by
 apply List.ext_getElem?
 intro i
 rw [List.getElem?_map,List.getElem?_map,List.getElem?_modify]
 cases es[i]? with
 | none=>rfl
 | some a=>by_cases h:n=i<;>simp [h]
theorem YH {x:κ} {v:ν} {b:Nat}:∀ {es:List (bE κ ν)},(∀ a∈es,a.key≠x)->∀ y,hY z (es++[⟨x,v,b⟩]) y=if y=x then v else hY z es y
 | [],_,y=>by simp [hY]
 | a :: es,h,y=>by
  have ih:=YH (v:=v) (b:=b) (es:=es) (λa ha=>h a (by simp [ha])) y
  rw [List.cons_append]
  unfold hY
  by_cases h1:y=a.key
  ·rw [if_pos h1,if_pos h1,if_neg λe=>h a (by simp) (h1.symm.trans e)]
  ·rw [if_neg h1,if_neg h1,ih]
theorem U0 {x:κ} {v:ν}:∀ {es:List (bE κ ν)} {n:Nat} {a:bE κ ν},es.Pairwise (λa b=>a.key≠b.key)->es[n]? = some a->a.key=x->∀ y,hY z (es.modify n λa=>{ a with val:=v }) y=if y=x then v else hY z es y
 | [],_,_,_,h,_,_=>by simp at h
 | c :: es,0,a,hp,h,hk,y=>by
  have:c=a:=by simpa using h
  subst this
  rw [List.modify_zero_cons]
  unfold hY
  by_cases hy:y=x
  ·rw [if_pos (hy.trans hk.symm),if_pos hy]
  ·rw [if_neg λe=>hy (e.trans hk),if_neg hy]
   cases es<;>simp [hY,hk,hy]
 | c :: es,n+1,a,hp,h,hk,y=>by
  obtain ⟨h1,h2⟩:=List.pairwise_cons.1 hp
  have h':es[n]? = some a:=by simpa using h
  have ih:=U0 (v:=v) h2 h' hk y
  rw [List.modify_succ_cons]
  unfold hY
  by_cases hy:y=c.key
  ·rw [if_pos hy,if_pos hy,if_neg]
   intro e
   exact h1 a (List.mem_of_getElem? h') (hy.symm.trans (e.trans hk.symm))
  ·rw [if_neg hy,if_neg hy]
   exact ih
include T
theorem FM {w:World} {b:Nat} {es:List (bE κ ν)} {clock:Nat} (ok:GOk es clock) (hb:w.heap[b]? = some (cA kv vv es clock)) (x:κ) (v:ν) :
  ∃ fU TX,Sem.run P (Instr.mapUpdate t (.map (some b)) (kv x) (vv v)) w=.ok () (CJ w b (cA kv vv fU TX))/\GOk fU TX/\∀ y,hY z fU y=if y=x then v else hY z es y:=by
 have h1:=T.find x es w
 unfold cA at hb
 cases hf:yD vv es x 0 with
 | none =>
  have hn:=tY hf
  refine ⟨es++[⟨x,v,clock⟩],clock+1,?_,⟨?_,?_,?_⟩,YH hn⟩
  ·have h3:=MapKept.run_setObj_map (P:=P) (.map ((es.map (bE.m kv vv)).toArray.push ⟨kv x,vv v,clock⟩) (clock+1)) hb
   unfold Instr.mapUpdate
   rw [hf] at h1
   simp only [Sem.run_bind,run_underlying T.map,MapKept.run_getObj_map hb,Result.andThen,T.chk,Sem.run_pure,h1,h3]
   unfold cA
   simp [bE.m]
   rfl
  ·exact List.pairwise_append.2 ⟨ok.keys,by simp,λa ha c hc=>by rw [List.mem_singleton.1 hc];exact hn a ha⟩
  ·exact List.pairwise_append.2 ⟨ok.rW,by simp,λa ha c hc=>by rw [List.mem_singleton.1 hc];exact Nat.ne_of_lt (ok.lt a ha)⟩
  ·intro a ha
   rcases List.mem_append.1 ha with ha|ha
   ·have:=ok.lt a ha;omega
   ·rw [List.mem_singleton.1 ha];exact Nat.lt_succ_self _
 | some r =>
  obtain ⟨j,u⟩:=r
  obtain ⟨n,a,hj,ha,hk,hv,hg⟩:=tZ (z:=z) hf
  have hj:j=n:=by omega
  subst hj
  have ha2:(es.map (bE.m kv vv)).toArray[j]? = some (bE.m kv vv a):=by simp [ha]
  have h3:=MapKept.run_setObj_map (P:=P) (.map ((es.map (bE.m kv vv)).toArray.modify j λe=>{ e with key:=kv x,val:=vv v }) clock) hb
  refine ⟨es.modify j λa=>{ a with val:=v },clock,?_,⟨?_,?_,?_⟩,U0 ok.keys ha hk⟩
  ·unfold Instr.mapUpdate
   rw [hf] at h1
   simp only [Sem.run_bind,run_underlying T.map,MapKept.run_getObj_map hb,Result.andThen,T.chk,Sem.run_pure,h1,ha2,Option.map_some,Option.getD_some]
   rw [show (bE.m kv vv a).key=kv x by rw [<-hk];rfl,T.stays x w]
   simp only [h3]
   congr 2
   unfold cA
   refine congrArg (λa=>w.heap.setIfInBounds b (Obj.map a clock)) ?_
   apply Array.ext'
   apply List.ext_getElem?
   intro i
   simp only [Array.toList_modify,List.getElem?_modify,List.getElem?_map]
   by_cases h:j=i
   ·subst h
    rw [ha]
    simp [bE.m,hk]
   ·simp [h]
  ·have:=List.pairwise_map.2 ok.keys
   exact List.pairwise_map.1 (by rw [OG];exact List.pairwise_map.2 ok.keys)
  ·exact List.pairwise_map.1 (by rw [yE];exact List.pairwise_map.2 ok.rW)
  ·intro c hc
   have hm:c.born∈(es.modify j λa=>{ a with val:=v }).map bE.born:=List.mem_map.2 ⟨c,hc,rfl⟩
   rw [yE] at hm
   obtain ⟨d,hd,he⟩:=List.mem_map.1 hm
   rw [<-he];exact ok.lt d hd
end
section
variable {P:Program} {t k e:TypeId}
theorem Q9 {kk:IntKind} (x:Int):∀ (es:List (bE Int ν)) (i:Nat),Instr.findNow (.int kk) (.int kk x) (es.map (bE.m (Value.int kk) vv)) i=some (yD vv es x i)
 | [],_=>rfl
 | a :: es,i=>by
  rw [List.map_cons]
  unfold Instr.findNow
  have e1:Instr.sameNow (.int kk) (.int kk x) (bE.m (Value.int kk) vv a).key=some (x == a.key):=by
   show (if kk=kk then some (x == a.key) else none)=_
   rw [if_pos rfl]
  rw [e1]
  unfold yD
  by_cases h:x=a.key
  ·rw [if_pos h,show (x == a.key)=true by rw [h];exact beq_self_eq_true _];rfl
  ·rw [if_neg h,show (x == a.key)=false from Bool.eq_false_iff.2 λhb=>h (by simpa using hb)]
   exact Q9 x es (i+1)
theorem GTy.ofInt {kk:IntKind} (hm:P.underlying t=some (.map k e)) (hk:P.underlying k=some (.int kk)) (hc:∀ b (x:Int) w,(Instr.checkKey b 10000 k (.int kk x)).run P w=.ok () w) (hz:∀ w,(zeroValue e).run P w=.ok (vv z) w):GTy P t k e (Value.int kk) vv z where
 map:=hm
 chk:=hc
 zero:=hz
 stays x w:=by
  have:Instr.sameBits 10000 (.int kk x) (.int kk x)=true:=by
   unfold Instr.sameBits
   simp [Instr.sameBits]
  unfold Instr.keyThatStays
  rw [if_pos this];rfl
 find x es w:=by
  unfold Instr.findKey
  simp only [Sem.run_bind,run_underlying hk,Result.andThen,Q9]
  rfl
theorem GTy.aBo (hm:P.underlying t=some (.map k e)) (hk0:∃ fs,P.underlying k=some (.struct fs)) (hc:∀ b x w,(Instr.checkKey b 10000 k (kv x)).run P w=.ok () w) (hs:∀ x w,(Instr.keyThatStays (kv x) (kv x)).run P w=.ok (kv x) w)
  (he:∀ x y w,(Op.equal k (kv x) (kv y)).run P w=.ok (decide (x=y)) w) (hz:∀ w,(zeroValue e).run P w=.ok (vv z) w):GTy P t k e kv vv z where
 map:=hm
 chk:=hc
 zero:=hz
 stays:=hs
 find x es w:=by
  obtain ⟨fs,hk⟩:=hk0
  have ask:∀ (es:List (bE κ ν)) (i:Nat),(Instr.findAsking k (kv x) (es.map (bE.m kv vv)) i).run P w=.ok (yD vv es x i) w:=by
   intro es
   induction es with
   | nil=>intro i;rfl
   | cons a es ih =>
    intro i
    rw [List.map_cons]
    unfold Instr.findAsking
    simp only [Sem.run_bind]
    rw [show (bE.m kv vv a).key=kv a.key from rfl,he x a.key w]
    simp only [Result.andThen]
    unfold yD
    by_cases h:x=a.key
    ·rw [if_pos (by simpa using h),if_pos h];rfl
    ·rw [if_neg (by simpa using h),if_neg h]
     exact ih (i+1)
  unfold Instr.findKey
  simp only [Sem.run_bind,run_underlying hk,Result.andThen]
  cases es with
  | nil=>rfl
  | cons a es =>
   rw [List.map_cons]
   unfold Instr.findNow
   simp only [Instr.sameNow]
   exact ask (a :: es) 0
end
end Go.Vc
end

section
namespace Go.Vc
open Go.ChangeShapes Go.WideShapes Go.ChangeAt Go.RowKit
section
variable {P:Program} {W w:World} {S:List Own} {Φ:PW}
theorem Ctx.aKn [aA Φ] {α:Type} [Gv α] {q:Option Addr} {l:List α} {c2:Nat} {p:Option Addr} {n cap:Nat} {cs:List Value} {t:TypeId} {bytes:Nat} (c:Ctx W w (.buf p n cap cs t (Gv.ty α).size :: S) Φ)
  {ts ty:TypeId} {kb:Array Bool} (hb:WV P ts t (Gv.ty α).size bytes=true) (h1:∀ M w cs (x:α),Gv.rep M w cs x->(cs.all λu=>pG u)=true) (NQ:∀ M w,Φ M w->Sl M w q l) (h0:0<l.length) (hlen:n+l.length<=140737488355328) (hbytes:(n+l.length)*bytes<=140737488355328) :
  ∃ p' cap' w' news,Sem.run P (builtin Builtin.append #[ts,ts] ty kb #[.slice p n cap,.slice q l.length c2]) w=.ok (.value (.slice p' (n+l.length) cap')) w'/\(∃ g,p'=some ⟨g,0,none⟩) /\
   Ctx W w' (.buf p' (n+l.length) cap' (cs++news) t (Gv.ty α).size :: S) (λM w=>Φ M w/\aQ M w news l):=by
 obtain ⟨i,z,e1,e2,e3,e4,e5,e6⟩:=nV hb
 have hby:(n+l.length)*i.bytes<=140737488355328:=Nat.le_trans (Nat.mul_le_mul_left _ (by omega)) hbytes
 obtain ⟨b,o,news,hp,g1,g2,g3,g4⟩:=(NQ _ _ c.gW).cells h1 h0
 obtain ⟨p',cap',w',h2,c'⟩:=(c.add (Ψ:=λM w=>aQ M w news l) g3).append 0 rfl (ty:=ty) e1 e2 e3 e4 e5 (a:=⟨b,o,none⟩) (m:=l.length) (c2:=c2) (news:=news) h0 g1 (λj u hj=>by rw [addr_add];exact g2 j u hj)
  (λu hu=>List.all_eq_true.1 g4 u hu) hby hlen
 have hpos:0<(Gv.ty α).size:=Gv.pos
 have hl2:0<l.length*(Gv.ty α).size:=Nat.mul_pos h0 hpos
 refine ⟨p',cap',w',news,by rw [hp];exact kI h2,?_,c'⟩
 obtain ⟨g,hg,_⟩:=c'.jF 0 rfl (by rw [List.length_append];omega)
 exact ⟨g,hg⟩
theorem Ctx.aFL [aA Φ] {α:Type} [Gv α] {q:Option Addr} {l:List α} {c2:Nat} {k:Nat} {t:TypeId} {bytes:Nat} (c:Ctx W w (.blk k [] t :: S) Φ)
  {ts ty:TypeId} {kb:Array Bool} (hb:WV P ts t (Gv.ty α).size bytes=true) (h1:∀ M w cs (x:α),Gv.rep M w cs x->(cs.all λu=>pG u)=true) (NQ:∀ M w,Φ M w->Sl M w q l) (hlen:l.length<=140737488355328) (hbytes:l.length*bytes<=140737488355328) :
  ∃ p' cap' w' cs,Sem.run P (builtin Builtin.append #[ts,ts] ty kb #[.slice (some ⟨k,0,none⟩) 0 0,.slice q l.length c2]) w=.ok (.value (.slice p' l.length cap')) w' /\
   Ctx W w' (.buf p' l.length cap' cs t (Gv.ty α).size :: S) (λM w=>Φ M w/\aQ M w cs l):=by
 have c':Ctx W w (.buf (some ⟨k,0,none⟩) 0 0 [] t (Gv.ty α).size :: S) Φ:=c.a14 0 0 (Gv.ty α).size rfl (by simp) (by simp [maxLen])
 rcases Nat.eq_zero_or_pos l.length with h0|h0
 ·obtain ⟨i,z,e1,e2,e3,e4,e5,e6⟩:=nV hb
  have hl:l=[]:=List.eq_nil_of_length_eq_zero h0
  subst hl
  exact ⟨_,_,w,[],kI (c'.LU 0 rfl e1 e2 q c2),c'.add aQ.nil⟩
 ·obtain ⟨p',cap',w',news,h2,_,c3⟩:=c'.aKn (ty:=ty) (kb:=kb) (c2:=c2) hb h1 NQ h0 (by omega) (by rw [Nat.zero_add];exact hbytes)
  rw [Nat.zero_add] at h2 c3
  exact ⟨p',cap',w',news,h2,c3⟩
end
end Go.Vc
end

section
namespace Go.Vc
section
variable {ε:Type} {le:ε->ε->Prop}
structure Ord (le:ε->ε->Prop):Prop where
 total:∀ x y,le x y\/le y x
 trans:∀ x y z,le x y->le y z->le x z
theorem Ord.refl (h:Ord le) (x:ε):le x x:=(h.total x x).elim id id
abbrev Asc (le:ε->ε->Prop) (l:List ε):Prop:=l.Pairwise le
structure aYQ (le:ε->ε->Prop) (bs:Nat) (cs:List (List ε)) (rest:List ε):Prop where
 len:∀ c∈cs,c.length=bs
 asc:∀ c∈cs,Asc le c
 last:Asc le rest
 short:rest.length<bs
end
end Go.Vc
end

section
namespace Go.Proofs.YtfccagphnfceiaaGreatDoor
open Go.Vc
structure cG where
 kind:Int
 num:Int
 text:ByteArray
instance:Gv cG:=Gv.via (β:=Int × Int × ByteArray) (λx=>(x.kind,x.num,x.text)) (λy=>⟨y.1,y.2.1,y.2.2⟩) (λ_=>rfl)
structure aV where
 time:Int
 row:List cG
 n:Int
instance:Gv aV:=Gv.via (β:=Int × List cG × Int) (λx=>(x.time,x.row,x.n)) (λy=>⟨y.1,y.2.1,y.2.2⟩) (λ_=>rfl)
abbrev cG.v (x:cG):Value:=.agg #[.int .i64 x.kind,.int .i64 x.num,.string x.text]
theorem aFM {x y:cG}:x=y ↔ (x.kind=y.kind/\(x.num=y.num/\x.text=y.text)):=by
 cases x;cases y;simp
instance:DecidableEq cG:=λ_ _=>decidable_of_iff _ aFM.symm
structure Cmp {α:Type} (c:α->α->Int):Prop where
 eq:∀ x y,c x y=0 ↔ x=y
 anti:∀ x y,0<c x y ↔ c y x<0
 trans:∀ x y z,c x y<0->c y z<0->c x z<0
 bd:∀ x y,-1<=c x y/\c x y<=1
theorem Cmp.refl {α:Type} {c:α->α->Int} (h:Cmp c) (x:α):c x x=0:=(h.eq x x).2 rfl
theorem Cmp.tri {α:Type} {c:α->α->Int} (h:Cmp c) (x y:α):c x y<0\/x=y\/c y x<0:=by
 rcases Int.lt_trichotomy (c x y) 0 with h1|h1|h1
 ·exact .inl h1
 ·exact .inr (.inl ((h.eq x y).1 h1))
 ·exact .inr (.inr ((h.anti x y).1 h1))
def vL (x y:Int):Int:=if x<y then -1 else if y<x then 1 else 0
theorem U1:Cmp vL:=by
 refine ⟨λx y=>?_,λx y=>?_,λx y z=>?_,λx y=>?_⟩
 ·unfold vL;split
  ·constructor<;>intro h<;>omega
  ·split
   ·constructor<;>intro h<;>omega
   ·constructor<;>intro h<;>omega
 ·unfold vL;split<;>split<;>try split
  all_goals first|omega|(split<;>omega)
 ·unfold vL;split
  ·intro _
   split
   ·intro _;rw [if_pos (by omega)];omega
   ·split<;>(intro h;omega)
  ·split<;>(intro h;omega)
 ·unfold vL;split;omega;split<;>omega
theorem xF:Cmp Lib.compareBytes:=by
 have heq:∀ a b:List UInt8,Lib.compareBytes a b=0 ↔ a=b:=by
  intro a
  induction a with
  | nil=>intro b;cases b<;>simp [Lib.compareBytes]
  | cons x a ih =>
   intro b
   cases b with
   | nil=>simp [Lib.compareBytes]
   | cons y b =>
    unfold Lib.compareBytes
    split
    ·rename_i h;constructor
     ·intro h';omega
     ·intro h';simp only [List.cons.injEq] at h';rw [h'.1] at h;exact absurd h (by exact UInt8.lt_irrefl y)
    ·split
     ·rename_i h;constructor
      ·intro h';omega
      ·intro h';simp only [List.cons.injEq] at h';rw [h'.1] at h;exact absurd h (by exact UInt8.lt_irrefl y)
     ·rename_i h1 h2
      have:x=y:=UInt8.le_antisymm (UInt8.not_lt.1 h2) (UInt8.not_lt.1 h1)
      subst this
      rw [ih b]
      simp
 have aOI:∀ a b:List UInt8,0<Lib.compareBytes a b ↔ Lib.compareBytes b a<0:=by
  intro a
  induction a with
  | nil=>intro b;cases b<;>simp [Lib.compareBytes]
  | cons x a ih =>
   intro b
   cases b with
   | nil=>simp [Lib.compareBytes]
   | cons y b =>
    unfold Lib.compareBytes
    by_cases h1:x<y
    ·rw [if_pos h1,if_neg (UInt8.lt_asymm h1),if_pos h1];omega
    ·rw [if_neg h1]
     by_cases h2:y<x
     ·rw [if_pos h2,if_pos h2];omega
     ·rw [if_neg h2,if_neg h2,if_neg h1];exact ih b
 have aKo:∀ a b c:List UInt8,Lib.compareBytes a b<0->Lib.compareBytes b c<0->Lib.compareBytes a c<0:=by
  intro a
  induction a with
  | nil =>
   intro b c h1 h2
   cases c with
   | nil=>cases b<;>simp [Lib.compareBytes] at h2
   | cons=>simp [Lib.compareBytes]
  | cons x a ih =>
   intro b c h1 h2
   cases b with
   | nil=>simp [Lib.compareBytes] at h1
   | cons y b =>
    cases c with
    | nil=>simp [Lib.compareBytes] at h2
    | cons z c =>
     unfold Lib.compareBytes at h1 h2 ⊢
     by_cases hxy:x<y
     ·by_cases hyz:y<z
      ·rw [if_pos (UInt8.lt_trans hxy hyz)];omega
      ·rw [if_neg hyz] at h2
       by_cases hzy:z<y
       ·rw [if_pos hzy] at h2;omega
       ·have:y=z:=UInt8.le_antisymm (UInt8.not_lt.1 hzy) (UInt8.not_lt.1 hyz)
        subst this
        rw [if_pos hxy];omega
     ·rw [if_neg hxy] at h1
      by_cases hyx:y<x
      ·rw [if_pos hyx] at h1;omega
      ·have:x=y:=UInt8.le_antisymm (UInt8.not_lt.1 hyx) (UInt8.not_lt.1 hxy)
       subst this
       rw [if_neg hyx] at h1
       by_cases hyz:x<z
       ·rw [if_pos hyz];omega
       ·rw [if_neg hyz] at h2 ⊢
        by_cases hzy:z<x
        ·rw [if_pos hzy] at h2;omega
        ·rw [if_neg hzy] at h2 ⊢
         exact ih b c h1 h2
 have hbd:∀ a b:List UInt8,-1<=Lib.compareBytes a b/\Lib.compareBytes a b<=1:=by
  intro a
  induction a with
  | nil=>intro b;cases b<;>simp [Lib.compareBytes]
  | cons x a ih =>
   intro b
   cases b with
   | nil=>simp [Lib.compareBytes]
   | cons y b =>
    unfold Lib.compareBytes
    split
    ·omega
    ·split
     ·omega
     ·exact ih b
 exact ⟨heq,aOI,aKo,hbd⟩
def IA (a b:ByteArray):Int:=Lib.compareBytes a.data.toList b.data.toList
theorem aBq:Cmp IA :=
 ⟨λx y=>(xF.eq _ _).trans ⟨λh=>ByteArray.ext (Array.toList_inj.1 h),λh=>by rw [h]⟩,λx y=>xF.anti _ _,λx y z=>xF.trans _ _ _,λx y=>xF.bd _ _⟩
def orI:List Int->Int
 | []=>0
 | x :: r=>if x≠0 then x else orI r
theorem a6Z (a b:Int):orI [a,b]=if a≠0 then a else b:=by
 unfold orI orI orI
 split
 ·rfl
 ·split
  ·rfl
  ·omega
def lex {α β:Type} (c:α->α->Int) (d:β->β->Int) (x y:α × β):Int:=if c x.1 y.1≠0 then c x.1 y.1 else d x.2 y.2
theorem a0T {α β:Type} {c:α->α->Int} {d:β->β->Int} (hc:Cmp c) (hd:Cmp d):Cmp (lex c d):=by
 refine ⟨λx y=>?_,λx y=>?_,λx y z h1 h2=>?_,λx y=>?_⟩
 ·unfold lex
  by_cases h:c x.1 y.1=0
  ·rw [if_neg (by simp [h]),hd.eq]
   have:=(hc.eq _ _).1 h
   constructor
   ·intro h';exact Prod.ext this h'
   ·intro h';rw [h']
  ·rw [if_pos h]
   constructor
   ·intro h';exact absurd h' h
   ·intro h';rw [h'] at h;exact absurd (hc.refl _) h
 ·unfold lex
  by_cases h:c x.1 y.1=0
  ·have:=(hc.eq _ _).1 h
   rw [if_neg (by simp [h]),if_neg (by rw [this];simp [hc.refl])]
   exact hd.anti _ _
  ·have h2:c y.1 x.1≠0:=λe=>h ((hc.eq _ _).2 ((hc.eq _ _).1 e).symm)
   rw [if_pos h,if_pos h2]
   exact hc.anti _ _
 ·unfold lex at h1 h2 ⊢
  by_cases e1:c x.1 y.1=0
  ·rw [if_neg (by simp [e1])] at h1
   have q:=(hc.eq _ _).1 e1
   rw [q]
   by_cases e2:c y.1 z.1=0
   ·rw [if_neg (by simp [e2])] at h2 ⊢
    exact hd.trans _ _ _ h1 h2
   ·rw [if_pos e2] at h2 ⊢
    exact h2
  ·rw [if_pos e1] at h1
   by_cases e2:c y.1 z.1=0
   ·have q:=(hc.eq _ _).1 e2
    rw [<-q,if_pos e1]
    exact h1
   ·rw [if_pos e2] at h2
    have:=hc.trans _ _ _ h1 h2
    rw [if_pos (by omega)]
    exact this
 ·unfold lex
  split
  ·exact hc.bd _ _
  ·exact hd.bd _ _
theorem Cmp.on {α β:Type} {c:β->β->Int} (h:Cmp c) (f:α->β) (hf:∀ x y,f x=f y->x=y):Cmp (λx y=>c (f x) (f y)) :=
 ⟨λx y=>⟨λe=>hf _ _ ((h.eq _ _).1 e),λe=>by rw [e];exact h.refl _⟩,λx y=>h.anti _ _,λx y z=>h.trans _ _ _,λx y=>h.bd _ _⟩
abbrev cmpL (x y:cG):List Int:=[vL x.kind y.kind,vL x.num y.num,IA x.text y.text]
def EB (x y:cG):Int:=orI (cmpL x y)
theorem aBr (x y:cG):EB x y=lex vL (lex vL IA) (x.kind,x.num,x.text) (y.kind,y.num,y.text):=by
 unfold EB cmpL lex
 rw [orI]
 split
 ·rfl
 ·rw [a6Z]
theorem nW:Cmp EB:=by
 have h:=(a0T U1 (a0T U1 aBq)).on (λx:cG=>(x.kind,x.num,x.text)) (λx y e=>by cases x;cases y;simpa using e)
 have e:EB=λx y=>lex vL (lex vL IA) (x.kind,x.num,x.text) (y.kind,y.num,y.text):=by funext x y;exact aBr x y
 rw [e];exact h
def rY:List cG->List cG->Int
 | [],[]=>0
 | [],_ :: _ => -1
 | _ :: _,[]=>1
 | a :: ar,b :: br=>if EB a b≠0 then EB a b else rY ar br
theorem U2:Cmp rY:=by
 refine ⟨?_,?_,?_,?_⟩
 ·intro x
  induction x with
  | nil=>intro y;cases y<;>simp [rY]
  | cons a x ih =>
   intro y
   cases y with
   | nil=>simp [rY]
   | cons b y =>
    unfold rY
    by_cases h:EB a b=0
    ·rw [if_neg (by simp [h]),ih y,(nW.eq _ _).1 h];simp
    ·rw [if_pos h]
     constructor
     ·intro h';exact absurd h' h
     ·intro h';simp only [List.cons.injEq] at h';rw [h'.1] at h;exact absurd (nW.refl _) h
 ·intro x
  induction x with
  | nil=>intro y;cases y<;>simp [rY]
  | cons a x ih =>
   intro y
   cases y with
   | nil=>simp [rY]
   | cons b y =>
    unfold rY
    by_cases h:EB a b=0
    ·have:=(nW.eq _ _).1 h
     rw [if_neg (by simp [h]),if_neg (by rw [this];simp [nW.refl])]
     exact ih y
    ·have h2:EB b a≠0:=λe=>h ((nW.eq _ _).2 ((nW.eq _ _).1 e).symm)
     rw [if_pos h,if_pos h2]
     exact nW.anti _ _
 ·intro x
  induction x with
  | nil =>
   intro y z h1 h2
   cases z with
   | nil=>cases y<;>simp [rY] at h2
   | cons=>simp [rY]
  | cons a x ih =>
   intro y z h1 h2
   cases y with
   | nil=>simp [rY] at h1
   | cons b y =>
    cases z with
    | nil=>simp [rY] at h2
    | cons c z =>
     unfold rY at h1 h2 ⊢
     by_cases e1:EB a b=0
     ·rw [if_neg (by simp [e1])] at h1
      have q:=(nW.eq _ _).1 e1
      rw [q]
      by_cases e2:EB b c=0
      ·rw [if_neg (by simp [e2])] at h2 ⊢
       exact ih y z h1 h2
      ·rw [if_pos e2] at h2 ⊢
       exact h2
     ·rw [if_pos e1] at h1
      by_cases e2:EB b c=0
      ·have q:=(nW.eq _ _).1 e2
       rw [<-q,if_pos e1]
       exact h1
      ·rw [if_pos e2] at h2
       have:=nW.trans _ _ _ h1 h2
       rw [if_pos (by omega)]
       exact this
 ·intro x
  induction x with
  | nil=>intro y;cases y<;>simp [rY]
  | cons a x ih =>
   intro y
   cases y with
   | nil=>simp [rY]
   | cons b y =>
    unfold rY
    split
    ·exact nW.bd _ _
    ·exact ih y
theorem a8B {l r:List cG} {i:Nat} (hi:i<l.length) (hr:r.length<=i):rY (l.drop i) (r.drop i)=1:=by
 rw [List.drop_eq_getElem_cons hi,List.drop_of_length_le hr];rfl
theorem a8C {l r:List cG} {i:Nat} (hi:i<l.length) (hr:i<r.length):rY (l.drop i) (r.drop i)=if EB l[i] r[i]≠0 then EB l[i] r[i] else rY (l.drop (i+1)) (r.drop (i+1)):=by
 rw [List.drop_eq_getElem_cons hi,List.drop_eq_getElem_cons hr];rfl
abbrev Key:Type:=Int × List cG
abbrev aV.key (x:aV):Key:=(x.time,x.row)
def U3 (x y:Key):Int:=lex vL rY x y
theorem nX:Cmp U3:=a0T U1 U2
abbrev aHS (x y:aV):List Int:=[vL x.time y.time,rY x.row y.row]
def a2w (x y:aV):Int:=orI (aHS x y)
theorem BM (x y:aV):a2w x y=U3 x.key y.key:=by
 unfold a2w aHS U3 lex
 rw [a6Z]
theorem a8D {x y:aV} (h1:x.key=y.key) (h2:x.n=y.n):x=y:=by
 cases x;cases y
 simp only [aV.key,Prod.mk.injEq] at h1
 simp only at h2
 obtain ⟨rfl,rfl⟩:=h1
 subst h2
 rfl
end Go.Proofs.YtfccagphnfceiaaGreatDoor
end

section
namespace Go.Proofs.YtfccagphnfceiaaGreatDoor
open Go.Vc
abbrev CD (x:Int):Int:=IntKind.i64.wrap x
theorem U4 (x:Int):CD x=if 9223372036854775808<=x % 18446744073709551616 then x % 18446744073709551616 - 18446744073709551616 else x % 18446744073709551616:=by
 simp [CD,IntKind.wrap,IntKind.signed,IntKind.bits]
theorem U5 (x:Int):aR (CD x):=by rw [U4];unfold aR;split<;>omega
theorem a4Z {x:Int} (h:aR x):CD x=x:=by rw [U4];unfold aR at h;split<;>omega
theorem a0U (x:Int):(CD x - x) % 18446744073709551616=0:=by rw [U4];split<;>omega
theorem MJ {x y:Int} (h:(x - y) % 18446744073709551616=0):CD x=CD y:=by
 rw [U4,U4]
 have:x % 18446744073709551616=y % 18446744073709551616:=by omega
 rw [this]
theorem a60 (x y:Int):CD (CD x+y)=CD (x+y):=MJ (by have:=a0U x;omega)
theorem a61 (x y:Int):CD (x+CD y)=CD (x+y):=MJ (by have:=a0U y;omega)
theorem aOK (x:Int):CD (CD x)=CD x:=a4Z (U5 x)
def j7:List aV->Key->Int
 | [],_=>0
 | x :: l,k=>(if x.key=k then x.n else 0)+j7 l k
def gF (l:List aV) (k:Key):Int:=CD (j7 l k)
theorem FN:∀ (a b:List aV) (k:Key),j7 (a++b) k=j7 a k+j7 b k
 | [],b,k=>by simp [j7]
 | x :: a,b,k=>by simp only [List.cons_append,j7,FN a b k];omega
theorem BN {l:List aV} {k:Key} (h:∀ x∈l,x.key≠k):j7 l k=0:=by
 induction l with
 | nil=>rfl
 | cons x l ih =>
  simp only [j7]
  rw [if_neg (h x (by simp)),ih λy hy=>h y (by simp [hy])]
  rfl
structure Norm (c:List aV):Prop where
 asc:c.Pairwise λx y=>a2w x y<0
 nz:∀ x∈c,x.n≠0
 i64:∀ x∈c,aR x.n
theorem Norm.nil:Norm []:=⟨List.Pairwise.nil,by simp,by simp⟩
theorem Norm.tail {x:aV} {c:List aV} (h:Norm (x :: c)):Norm c:=⟨(List.pairwise_cons.1 h.asc).2,λy hy=>h.nz y (by simp [hy]),λy hy=>h.i64 y (by simp [hy])⟩
theorem Norm.head {x:aV} {c:List aV} (h:Norm (x :: c)):∀ y∈c,U3 x.key y.key<0:=λy hy=>by
 rw [<-BM];exact (List.pairwise_cons.1 h.asc).1 y hy
theorem Norm.cons {x:aV} {c:List aV} (h:Norm c) (h1:∀ y∈c,U3 x.key y.key<0) (h2:x.n≠0) (h3:aR x.n):Norm (x :: c) :=
 ⟨List.pairwise_cons.2 ⟨λy hy=>by rw [BM];exact h1 y hy,h.asc⟩,λy hy=>by rcases List.mem_cons.1 hy with rfl|hy;exact h2;exact h.nz y hy,λy hy=>by rcases List.mem_cons.1 hy with rfl|hy;exact h3;exact h.i64 y hy⟩
theorem Norm.a0V {x:aV} {c:List aV} (h:Norm (x :: c)):∀ y∈c,y.key≠x.key:=λy hy e=>by
 have:=h.head y hy
 rw [e,nX.refl] at this
 omega
theorem Norm.OH {x:aV} {c:List aV} (h:Norm (x :: c)):gF (x :: c) x.key=x.n:=by
 unfold gF
 rw [show j7 (x :: c) x.key=(if x.key=x.key then x.n else 0)+j7 c x.key from rfl,if_pos rfl,BN h.a0V,Int.add_zero]
 exact a4Z (h.i64 x (by simp))
theorem a2x:∀ {c d:List aV},Norm c->Norm d->(∀ k,gF c k=gF d k)->c=d:=by
 have none:∀ {c:List aV} {x:aV} {l:List aV},Norm (x :: l)->(∀ y∈c,y.key≠x.key)->gF (x :: l) x.key=gF c x.key->False:=fun {c x l} h hc e=>by
  rw [h.OH] at e
  unfold gF at e
  rw [BN hc] at e
  exact h.nz x (by simp) e
 intro c
 induction c with
 | nil =>
  intro d _ hd h
  cases d with
  | nil=>rfl
  | cons y d=>exact (none (c:=[]) hd (by simp) (h _).symm).elim
 | cons x c ih =>
  intro d hc hd h
  cases d with
  | nil=>exact (none (c:=[]) hc (by simp) (h _)).elim
  | cons y d =>
   rcases nX.tri x.key y.key with hlt|he|hgt
   ·refine (none (c:=y :: d) hc (λz hz e=>?_) (h _)).elim
    rcases List.mem_cons.1 hz with rfl|hz
    ·rw [e,nX.refl] at hlt;omega
    ·have:=nX.trans _ _ _ hlt (hd.head z hz)
     rw [e,nX.refl] at this;omega
   ·have hn:x.n=y.n:=by rw [<-hc.OH,<-hd.OH,<-he,h]
    have hxy:x=y:=a8D he hn
    subst hxy
    congr 1
    refine ih hc.tail hd.tail λk=>?_
    by_cases hk:x.key=k
    ·subst hk
     unfold gF
     rw [BN hc.a0V,BN hd.a0V]
    ·have:=h k
     unfold gF at this ⊢
     simp only [j7] at this
     rwa [if_neg hk,Int.zero_add,Int.zero_add] at this
   ·refine (none (c:=x :: c) hd (λz hz e=>?_) (h _).symm).elim
    rcases List.mem_cons.1 hz with rfl|hz
    ·rw [e,nX.refl] at hgt;omega
    ·have:=nX.trans _ _ _ hgt (hc.head z hz)
     rw [e,nX.refl] at this;omega
def RG (x:aV):List aV->List aV
 | []=>if CD x.n=0 then [] else [⟨x.time,x.row,CD x.n⟩]
 | y :: t=>if a2w x y<0 then (if CD x.n=0 then y :: t else ⟨x.time,x.row,CD x.n⟩ :: y :: t)
   else if a2w x y=0 then (if CD (x.n+y.n)=0 then t else ⟨y.time,y.row,CD (x.n+y.n)⟩ :: t)
   else y :: RG x t
theorem aBs (x:aV):∀ (c:List aV),∀ z∈RG x c,z.key=x.key\/∃ y∈c,y.key=z.key:=by
 intro c
 induction c with
 | nil =>
  intro z hz
  unfold RG at hz
  split at hz
  ·cases hz
  ·rcases List.mem_singleton.1 hz with rfl;exact .inl rfl
 | cons y t ih =>
  intro z hz
  unfold RG at hz
  split at hz
  ·split at hz
   ·exact .inr ⟨z,hz,rfl⟩
   ·rcases List.mem_cons.1 hz with rfl|hz
    ·exact .inl rfl
    ·exact .inr ⟨z,hz,rfl⟩
  ·split at hz
   ·split at hz
    ·exact .inr ⟨z,by simp [hz],rfl⟩
    ·rcases List.mem_cons.1 hz with rfl|hz
     ·exact .inr ⟨y,by simp,rfl⟩
     ·exact .inr ⟨z,by simp [hz],rfl⟩
   ·rcases List.mem_cons.1 hz with rfl|hz
    ·exact .inr ⟨z,by simp,rfl⟩
    ·rcases ih z hz with h|⟨y',hy,h⟩
     ·exact .inl h
     ·exact .inr ⟨y',by simp [hy],h⟩
theorem a8E (x:aV):∀ {c:List aV},Norm c->Norm (RG x c)/\∀ k,gF (RG x c) k=gF (x :: c) k:=by
 intro c
 induction c with
 | nil =>
  intro _
  unfold RG
  split
  ·rename_i h
   refine ⟨Norm.nil,λk=>?_⟩
   unfold gF
   simp only [j7]
   split
   ·rw [Int.add_zero,h];rfl
   ·rfl
  ·rename_i h
   refine ⟨Norm.nil.cons (by simp) h (U5 _),λk=>?_⟩
   unfold gF
   simp only [j7]
   by_cases hk:x.key=k
   ·rw [if_pos hk,if_pos (show (⟨x.time,x.row,CD x.n⟩:aV).key=k from hk),Int.add_zero,Int.add_zero,aOK]
   ·rw [if_neg hk,if_neg (show ¬ (⟨x.time,x.row,CD x.n⟩:aV).key=k from hk)]
 | cons y t ih =>
  intro h
  unfold RG
  by_cases h1:a2w x y<0
  ·rw [if_pos h1]
   have hlt:∀ z∈y :: t,U3 x.key z.key<0:=λz hz=>by
    rw [BM] at h1
    rcases List.mem_cons.1 hz with rfl|hz
    ·exact h1
    ·exact nX.trans _ _ _ h1 (h.head z hz)
   split
   ·rename_i hz
    refine ⟨h,λk=>?_⟩
    unfold gF
    rw [show j7 (x :: y :: t) k=(if x.key=k then x.n else 0)+j7 (y :: t) k from rfl]
    split
    ·rw [<-a60,hz,Int.zero_add]
    ·rw [Int.zero_add]
   ·rename_i hz
    refine ⟨h.cons hlt hz (U5 _),λk=>?_⟩
    unfold gF
    rw [show j7 (x :: y :: t) k=(if x.key=k then x.n else 0)+j7 (y :: t) k from rfl,
     show j7 (⟨x.time,x.row,CD x.n⟩ :: y :: t) k=(if x.key=k then CD x.n else 0)+j7 (y :: t) k from rfl]
    split
    ·rw [a60]
    ·rfl
  ·rw [if_neg h1]
   by_cases h2:a2w x y=0
   ·rw [if_pos h2]
    have hk:x.key=y.key:=by rw [BM] at h2;exact (nX.eq _ _).1 h2
    split
    ·rename_i hz
     refine ⟨h.tail,λk=>?_⟩
     unfold gF
     rw [show j7 (x :: y :: t) k=(if x.key=k then x.n else 0)+((if y.key=k then y.n else 0)+j7 t k) from rfl,hk]
     split
     ·rw [<-Int.add_assoc,<-a60,hz,Int.zero_add]
     ·rw [Int.zero_add,Int.zero_add]
    ·rename_i hz
     refine ⟨h.tail.cons (λz hz'=>h.head z hz') hz (U5 _),λk=>?_⟩
     unfold gF
     rw [show j7 (x :: y :: t) k=(if x.key=k then x.n else 0)+((if y.key=k then y.n else 0)+j7 t k) from rfl,hk,
      show j7 (⟨y.time,y.row,CD (x.n+y.n)⟩ :: t) k=(if y.key=k then CD (x.n+y.n) else 0)+j7 t k from rfl]
     split
     ·rw [a60,Int.add_assoc]
     ·simp only [Int.zero_add]
   ·rw [if_neg h2]
    obtain ⟨ih1,ih2⟩:=ih h.tail
    have hgt:U3 y.key x.key<0:=by
     rw [BM] at h1 h2
     exact (nX.anti _ _).1 (by omega)
    refine ⟨ih1.cons (λz hz=>?_) (h.nz y (by simp)) (h.i64 y (by simp)),λk=>?_⟩
    ·rcases aBs x t z hz with e|⟨y',hy',e⟩
     ·rw [e];exact hgt
     ·rw [<-e];exact h.head y' hy'
    ·have:=ih2 k
     unfold gF at this ⊢
     rw [show j7 (y :: RG x t) k=(if y.key=k then y.n else 0)+j7 (RG x t) k from rfl,show j7 (x :: y :: t) k=(if x.key=k then x.n else 0)+((if y.key=k then y.n else 0)+j7 t k) from rfl,<-a61,this,a61]
     rw [show j7 (x :: t) k=(if x.key=k then x.n else 0)+j7 t k from rfl]
     congr 1
     omega
def QA (l:List aV):List aV:=l.foldr RG []
theorem U6 (l:List aV):Norm (QA l)/\∀ k,gF (QA l) k=gF l k:=by
 induction l with
 | nil=>exact ⟨Norm.nil,λk=>rfl⟩
 | cons x l ih =>
  obtain ⟨h1,h2⟩:=a8E x ih.1
  refine ⟨h1,λk=>?_⟩
  show gF (RG x (QA l)) k=_
  rw [h2]
  have:=ih.2 k
  unfold gF at this ⊢
  rw [show j7 (x :: QA l) k=(if x.key=k then x.n else 0)+j7 (QA l) k from rfl,show j7 (x :: l) k=(if x.key=k then x.n else 0)+j7 l k from rfl,<-a61,this,a61]
theorem aBt {l c:List aV} (h:Norm c) (hf:∀ k,gF c k=gF l k):QA l=c :=
 a2x (U6 l).1 h λk=>by rw [(U6 l).2,hf]
end Go.Proofs.YtfccagphnfceiaaGreatDoor
end

section
namespace Go.Proofs.YtfccagphnfceiaaGreatDoor
open Go.Vc
abbrev aV.v (x:aV) (p:Option Addr) (c:Nat):Value:=.agg #[.int .i64 x.time,.slice p x.row.length c,.int .i64 x.n]
abbrev aV.cells (x:aV) (p:Option Addr) (c:Nat):List Value:=[.int .i64 x.time,.slice p x.row.length c,.int .i64 x.n]
theorem a2y {M:List Nat} {w:World} {cs:List Value} {x:aV} (h:Gv.rep M w cs x):∃ p c,cs=x.cells p c/\x.row.length<=c/\c<=maxLen/\aR x.time/\aR x.n/\Sl M w p x.row:=by
 obtain ⟨_,_,rfl,⟨rfl,ht⟩,_,_,rfl,⟨p,c,rfl,h1,h2,h3⟩,rfl,hn⟩:=h
 exact ⟨p,c,rfl,h1,h2,ht,hn,h3⟩
structure DE where
 d:aV
 p:Option Addr
 c:Nat
abbrev DE.cells (x:DE):List Value:=x.d.cells x.p x.c
abbrev DE.v (x:DE):Value:=x.d.v x.p x.c
def aYS (es:List DE):PW:=λM w=>∀ x∈es,Gv.rep M w x.cells x.d
instance aBu (es:List DE):aA (aYS es):=⟨λhs h x hx=>Gv.j6 hs (h x hx)⟩
end Go.Proofs.YtfccagphnfceiaaGreatDoor
end

section
namespace Go.Proofs.YtfccagphnfceiaaGreatDoor
open Go.Vc
end Go.Proofs.YtfccagphnfceiaaGreatDoor
end

section
namespace Go.Proofs.YtfccagphnfceiaaGreatDoor
open Go.Vc
end Go.Proofs.YtfccagphnfceiaaGreatDoor
end

section
namespace Go.Proofs.YtfccagphnfceiaaGreatDoor
open Go.Vc
end Go.Proofs.YtfccagphnfceiaaGreatDoor
end

section
namespace Go.Proofs.YtfccagphnfceiaaGreatDoor
open Go.Vc
end Go.Proofs.YtfccagphnfceiaaGreatDoor
end

section
namespace Go.Proofs.YtfccagphnfceiaaGreatDoor
open Go.Vc
end Go.Proofs.YtfccagphnfceiaaGreatDoor
end

section
namespace Go.Proofs.YtfccagphnfceiaaGreatDoor
open Go.Vc
theorem U7 {M:List Nat} {w:World} {b o:Nat} {l:List cG} (h:Sl M w (some ⟨b,o,none⟩) l) {i:Nat} (hi:i<l.length):dH w b (o+i*3) [.int .i64 l[i].kind,.int .i64 l[i].num,.string l[i].text]:=by
 obtain ⟨b',o',cs,e,_,h3,_,_,rfl,⟨rfl,_⟩,_,_,rfl,⟨rfl,_⟩,rfl,_⟩:=h i hi
 cases e
 exact h3
theorem a41 {M:List Nat} {w:World} {b o:Nat} {l:List Int} (h:Sl M w (some ⟨b,o,none⟩) l) {i:Nat} (hi:i<l.length):w.cell? ⟨b,o+i,none⟩=some (.int .i64 l[i]):=by
 obtain ⟨b',o',cs,e,_,h3,rfl,_⟩:=h i hi
 cases e
 have:=h3 0 (by simp)
 simpa [show (Gv.ty Int).size=1 from rfl] using this
end Go.Proofs.YtfccagphnfceiaaGreatDoor
end

section
namespace Go.Proofs.YtfccagphnfceiaaGreatDoor
open Go.Vc
abbrev aFN (x:Int):Value:=.int .i64 x
abbrev wU (p:Option Addr) (cap:Nat) (zs:List Int):Own:=.buf p zs.length cap (zs.map aFN) 3 1
def a42:List Int->Int
 | []=>0
 | x :: r=>r.foldl min x
theorem a8F {l:List Int} (h:l≠[]) (x:Int):a42 (l++[x])=min (a42 l) x:=by
 cases l with
 | nil=>exact absurd rfl h
 | cons y l=>simp [a42]
section
variable {W w w':World} {S:List Own} {Φ:PW} {p:Option Addr} {g cap:Nat} {zs:List Int} {i:Nat} {x:Int}
end
theorem aFO (M:List Nat) (w:World) (cs:List Value) (x:Int) (h:Gv.rep M w cs x):(cs.all λu=>pG u)=true:=by
 obtain ⟨rfl,_⟩:=h
 rfl
section
variable {W w:World} {R G:List Own} {Φ PS:PW} {p q:Option Addr} {cap cap2:Nat} {l a b:List Int}
theorem aOL [aA PS] {op:Option Addr} {oc kb:Nat} {o:List Int} {x:Int} (ho:o.length<10000000) (cx:Ctx W w (.blk kb [.int .i64 x] 3 :: wU op oc o :: R++G) PS) :
  ∃ p c w',Sem.run Tryz.prog (builtin Builtin.append #[23,23] 23 #[false,false] #[.slice op o.length oc,.slice (some ⟨kb,0,none⟩) 1 1]) w=.ok (.value (.slice p (o++[x]).length c)) w'/\Ctx W w' (wU p c (o++[x]) :: R++G) PS:=by
 obtain ⟨p',cap',w',hrun,_,cx'⟩:=Ctx.a2t (P:=Tryz.prog) (ts:=23) (ty:=23) (kb:=#[false,false]) (size:=1) (bytes:=8) cx (by kernel_rfl) (by omega) rfl rfl (by omega) (by omega)
 have e:o.length+1=(o++[x]).length:=by simp
 have em:o.map aFN++[.int .i64 x]=(o++[x]).map aFN:=by rw [List.map_append];rfl
 rw [e] at hrun cx'
 rw [em] at cx'
 exact ⟨p',cap',w',hrun,cx'⟩
theorem a8G [aA Φ] (eT:∀ M w,Φ M w->Sl M w p l) (hlen:l.length<=17592186044416):uR Φ Tryz.prog F.cI #[.slice p l.length cap] l 3:=by
 refine .there (λM w h=>(eT M w h).there) λK4=>?_
 refine YG (oP p l.length cap) λW R=>?_
 refine Br.intro (λhn=>λw F c=>?_) (λhn=>?_)
 ·have hl:l=[]:=by
   cases l with
   | nil=>rfl
   | cons=>obtain ⟨b,o,e⟩:=K4 (by simp);rw [e] at hn;cases hn
  subst hl
  exact ⟨none,0,[],rfl,(c.left.a8d 3 1).add aQ.nil⟩
 ·intro k w F c
  obtain ⟨p',cap',w',cs,hrun,c'⟩:=Ctx.aFL (P:=Tryz.prog) (ts:=23) (ty:=23) (kb:=#[false,false]) (bytes:=8) (c2:=cap) c (by kernel_rfl) aFO eT (by omega) (by omega)
  exact ⟨_,_,_,_,hrun,_,_,inferInstance,c',λw F c=>⟨p',cap',cs,rfl,c.left⟩⟩
theorem aKp [aA Φ] [eT:Has Φ (λM w=>Sl M w p l)] (h0:0<l.length) (hlen:l.length<=17592186044416):aU Φ Tryz.prog F.lI #[.slice p l.length cap] (.int .i64 (a42 l)):=by
 refine .there (λM w h=>(eT.go M w h).there) λK4=>?_
 obtain ⟨g,o,rfl⟩:=K4 h0
 refine dS (BJ _ l.length cap) λW R=>Br.intro (λh=>by have:=of_decide_eq_true h;omega) (λ_=>⟨by omega,aJ g o rfl λw G cx=>⟨l[0],a41 (eT.go _ _ cx.gW) h0,?_⟩⟩)
 clear cx
 refine bY (λn iI R' aF k=>∃ i:Nat,iI=i/\1<=i/\i<=l.length/\n=a42 (l.take i)/\R'=R/\aF=Φ/\k=l.length - i) ⟨⟨R,Φ,_,inferInstance,λw G cx=>cx,1,rfl,by omega,by omega,?_,rfl,rfl,rfl⟩,?_⟩
 ·cases l with
  | nil=>simp at h0
  | cons x l=>simp [a42]
 rintro n iI R1 bH k _ ⟨i,rfl,h1,hi,rfl,rfl,rfl,rfl⟩
 refine Br.intro (λhlt=>?_) (λhge=>λw G cx=>⟨?_,cx.left⟩)
 ·have hlt:i<l.length:=by have:=of_decide_eq_true hlt;omega
  refine ⟨by omega,aJ g o rfl λw G cx=>⟨l[i],by rw [Int.toNat_natCast];exact a41 (eT.go _ _ cx.gW) hlt,by unfold aR;omega,R1,bH,l.length - (i+1),inferInstance,λw G cx=>cx,⟨i+1,by omega,by omega,hlt,?_,rfl,rfl,rfl⟩,by omega⟩⟩
  rw [List.take_succ_eq_append_getElem hlt,a8F (by intro e;have:=congrArg List.length e;rw [List.length_take,List.length_nil] at this;omega)]
 ·have hge:i=l.length:=by have:=of_decide_eq_false hge;omega
  rw [hge,List.take_length]
end
end Go.Proofs.YtfccagphnfceiaaGreatDoor
end

section
namespace Go.Proofs.YtfccagphnfceiaaGreatDoor
open Go.Vc
theorem a8H {M:List Nat} {w:World} {b o:Nat} {cs:List (List Value)} {l:List aV} (h:Pin b o cs l M w) {j:Nat} (hj:j<l.length):∃ p c,cs.getD j []=l[j].cells p c/\l[j].row.length<=c/\c<=maxLen/\aR l[j].time/\aR l[j].n/\dH w b (o+j*3) (l[j].cells p c):=by
 obtain ⟨_,h1,h2⟩:=h j hj
 obtain ⟨p,c,e,g1,g2,g3,g4,_⟩:=a2y h2
 exact ⟨p,c,e,g1,g2,g3,g4,by rw [e] at h1;exact h1⟩
theorem val_one (M:List Nat) (w:World) (cs:List Value) (x:cG) (h:Gv.rep M w cs x):(cs.all λu=>pG u)=true:=by
 obtain ⟨_,_,rfl,⟨rfl,_⟩,_,_,rfl,⟨rfl,_⟩,rfl,_⟩:=h
 rfl
theorem a8I {Φ:PW} [aA Φ] (p:Option Addr) (cap:Nat) (l:List cG) (eT:∀ M w,Φ M w->Sl M w p l) (hlen:l.length<100000000) :
  uR Φ Tryz.prog F.bT #[.slice p l.length cap] l 147:=by
 refine .there (λM w h=>(eT M w h).there) λK4=>?_
 refine YG (oJ p l.length cap) λW R=>?_
 refine Br.intro (λhn=>λw F c=>?_) (λhn=>?_)
 ·have hl:l=[]:=by
   cases l with
   | nil=>rfl
   | cons=>obtain ⟨b,o,e⟩:=K4 (by simp);rw [e] at hn;cases hn
  subst hl
  exact ⟨none,0,[],rfl,(c.left.a8d 147 3).add aQ.nil⟩
 ·intro k w F c
  obtain ⟨p',cap',w',cs,hrun,c'⟩:=Ctx.aKj (P:=Tryz.prog) (ts:=29) (ty:=29) (kb:=#[false,false]) (bytes:=32) (c2:=cap) c (by kernel_rfl) val_one eT hlen (by omega)
  exact ⟨_,_,_,_,hrun,_,_,inferInstance,c',λw F c=>⟨p',cap',cs,rfl,c.left⟩⟩
def iP (x:cG):Bool:=if x.kind=0 then decide (x.text=ByteArray.mk #[]) else if x.kind=1 then decide (x.num=0)&&decide ((x.text.size:Int)<=200) else decide (x.kind=2)&&(decide (x.num=0)||decide (x.num=1))&&decide (x.text=ByteArray.mk #[])
theorem aBv (x:cG):pS Tryz.prog F.jO #[x.v] (.bool (iP x)):=by
 refine pT (CR x.kind x.num x.text) λW R Φ _=>λ_=>Br.intro (λh=>λw G c=>⟨?_,c.left⟩) (λh=>Br.intro (λh2=>λw G c w G c=>⟨?_,c.left⟩) (λh2=>λw G c w G c=>⟨?_,c.left⟩))
 ·unfold iP;rw [if_pos (of_decide_eq_true h)]
 ·unfold iP;rw [if_neg (of_decide_eq_false h),if_pos (of_decide_eq_true h2)]
 ·unfold iP;rw [if_neg (of_decide_eq_false h),if_neg (of_decide_eq_false h2)]
theorem aKq {Φ:PW} [aA Φ] (q:cG->Bool) (hq:∀ x,pS Tryz.prog F.jO #[x.v] (.bool (q x))) (p:Option Addr) (cap:Nat) (l:List cG) (eT:∀ M w,Φ M w->Sl M w p l) (hlen:l.length<=9223372036854775807):aU Φ Tryz.prog F.lW #[.slice p l.length cap] (.bool (l.all q)):=by
 refine .there (λM w h=>(eT M w h).there) λK4=>?_
 refine dS (F7 p l.length cap) λW R=>?_
 refine bY (λn R' aF k=>∃ i:Nat,n=i/\i<=l.length/\R'=R/\aF=Φ/\k=l.length - i/\l.all q=(l.drop i).all q) ⟨⟨R,Φ,_,inferInstance,λw F c=>c,0,rfl,Nat.zero_le _,rfl,rfl,rfl,rfl⟩,?_⟩
 rintro n R1 bH k _ ⟨i,rfl,hi,rfl,rfl,rfl,hs⟩
 refine Br.intro (λhlt=>?_) (λhge=>λw F cx=>⟨?_,cx.left⟩)
 ·have hlt:i<l.length:=by simpa using hlt
  obtain ⟨b,o,rfl⟩:=K4 (by omega)
  rw [List.drop_eq_getElem_cons hlt,List.all_cons] at hs
  refine ⟨by omega,aJ b o rfl λw F cx=>⟨l[i].kind,l[i].num,l[i].text,by rw [Int.toNat_natCast];exact U7 (eT _ _ cx.gW) hlt,λw F cx=>(hq l[i]).use cx λw cx=>⟨_,rfl,R1,bH,inferInstance,cx,Br.intro (λh=>λw F cx=>⟨?_,cx.left⟩) (λh=>⟨by unfold aR;omega,R1,bH,l.length - (i+1),inferInstance,λw F c=>c,⟨i+1,rfl,hlt,rfl,rfl,rfl,?_⟩,by omega⟩)⟩⟩⟩
  ·rw [hs,show q l[i]=false by simpa using h,Bool.false_and]
  ·rw [hs,show q l[i]=true by simpa using h,Bool.true_and]
 ·have hge:i=l.length:=Nat.le_antisymm hi (by simpa using hge)
  rw [hs,hge,List.drop_length]
  rfl
theorem aFP {Φ:PW} [aA Φ] (p:Option Addr) (cap:Nat) (l:List cG) (eT:∀ M w,Φ M w->Sl M w p l) (hlen:l.length<=9223372036854775807):aU Φ Tryz.prog F.lW #[.slice p l.length cap] (.bool (l.all iP)):=aKq iP aBv p cap l eT hlen
def eD (l:List cG):Bool:=decide ((l.length:Int)<=12)&&l.all iP
theorem a0W {Φ:PW} [aA Φ] (p:Option Addr) (cap:Nat) (l:List cG) (eT:∀ M w,Φ M w->Sl M w p l) (hlen:l.length<=9223372036854775807):aU Φ Tryz.prog F.gY #[.slice p l.length cap] (.bool (eD l)):=by
 have h1:=aFP p cap l eT hlen
 unfold eD
 generalize l.all iP=c at h1
 refine dS (yT p l.length cap) λW R=>Br.intro (λh=>λw F cx=>h1.use cx λw cx=>⟨_,rfl,R,Φ,inferInstance,cx,λw F cx=>⟨?_,cx.left⟩⟩) (λh=>λw F cx=>⟨?_,cx.left⟩)
 ·rw [h,Bool.true_and]
 ·rw [h,Bool.false_and]
end Go.Proofs.YtfccagphnfceiaaGreatDoor
end

section
namespace Go.Proofs.YtfccagphnfceiaaGreatDoor
open Go.Vc
structure aM where
 no:Int
 batch:Int
 time:Int
 row:List cG
 n:Int
 iR:Int
 why:Int
instance:Gv aM:=Gv.via (β:=Int × Int × Int × List cG × Int × Int × Int) (λx=>(x.no,x.batch,x.time,x.row,x.n,x.iR,x.why)) (λy=>⟨y.1,y.2.1,y.2.2.1,y.2.2.2.1,y.2.2.2.2.1,y.2.2.2.2.2.1,y.2.2.2.2.2.2⟩) (λ_=>rfl)
abbrev aM.cells (x:aM) (p:Option Addr) (c:Nat):List Value:=[.int .i64 x.no,.int .i64 x.batch,.int .i64 x.time,.slice p x.row.length c,.int .i64 x.n,.int .i64 x.iR,.int .i64 x.why]
abbrev aM.v (x:aM) (p:Option Addr) (c:Nat):Value:=.agg #[.int .i64 x.no,.int .i64 x.batch,.int .i64 x.time,.slice p x.row.length c,.int .i64 x.n,.int .i64 x.iR,.int .i64 x.why]
structure aM.In (x:aM):Prop where
 no:aR x.no
 batch:aR x.batch
 time:aR x.time
 n:aR x.n
 iR:aR x.iR
 why:aR x.why
theorem K5 {M:List Nat} {w:World} {cs:List Value} {x:aM} (h:Gv.rep M w cs x):∃ p c,cs=x.cells p c/\x.row.length<=c/\c<=maxLen/\x.In/\Sl M w p x.row:=by
 obtain ⟨_,_,rfl,⟨rfl,h1⟩,_,_,rfl,⟨rfl,h2⟩,_,_,rfl,⟨rfl,h3⟩,_,_,rfl,⟨p,c,rfl,g1,g2,g3⟩,_,_,rfl,⟨rfl,h4⟩,_,_,rfl,⟨rfl,h5⟩,rfl,h6⟩:=h
 exact ⟨p,c,rfl,g1,g2,⟨h1,h2,h3,h4,h5,h6⟩,g3⟩
theorem MK {M:List Nat} {w:World} {x:aM} {p:Option Addr} {c:Nat} (h1:x.row.length<=c) (h2:c<=maxLen) (h:x.In) (h5:Sl M w p x.row):Gv.rep M w (x.cells p c) x :=
 ⟨[_],[_,_,_,_,_,_],rfl,⟨rfl,h.no⟩,[_],[_,_,_,_,_],rfl,⟨rfl,h.batch⟩,[_],[_,_,_,_],rfl,⟨rfl,h.time⟩,[_],[_,_,_],rfl,⟨p,c,rfl,h1,h2,h5⟩,[_],[_,_],rfl,⟨rfl,h.n⟩,[_],[_],rfl,⟨rfl,h.iR⟩,rfl,h.why⟩
theorem U8 {M:List Nat} {w:World} {x:aM} {p:Option Addr} {c:Nat} (h:Gv.rep M w (x.cells p c) x):Sl M w p x.row:=by
 obtain ⟨p',c',e,_,_,_,h1⟩:=K5 h
 simp only [aM.cells,List.cons.injEq,Value.slice.injEq] at e
 rw [e.2.2.2.1.1]
 exact h1
theorem U9 (M:List Nat) (w:World) (cs:List Value) (x:aM) (h:Gv.rep M w cs x):(cs.all λu=>pG u)=true:=by
 obtain ⟨p,c,rfl,_⟩:=K5 h
 rfl
def aM.d (x:aM):aV:=⟨x.time,x.row,x.n⟩
abbrev cR (p:Option Addr) (n cap:Nat) (cs:List Value):Own:=.buf p n cap cs 31 7
theorem a8J {M:List Nat} {w:World} {cs:List Value} {l:List aM} (h:aQ M w cs l) {i:Nat} (hi:i<l.length):∃ p c,(cs.drop (i*7)).take 7=l[i].cells p c/\l[i].row.length<=c/\c<=maxLen/\l[i].In/\Sl M w p l[i].row :=
 K5 (h.2 i hi)
theorem a44 {M:List Nat} {w:World} {cs:List Value} {l:List aM} (h:aQ M w cs l):cs.length=l.length*7:=h.1
theorem aHT {W w:World} {S:List Own} {Φ:PW} {p:Option Addr} {n cap:Nat} {cs:List Value} (cx:Ctx W w (cR p n cap cs :: S) Φ) (h:0<cs.length):∃ g,p=some ⟨g,0,none⟩:=by
 obtain ⟨g,hg,_⟩:=cx.jF 0 rfl h
 exact ⟨g,hg⟩
theorem aOM {W w:World} {S:List Own} {Φ:PW} {g n cap:Nat} {cs:List Value} (cx:Ctx W w (cR (some ⟨g,0,none⟩) n cap cs :: S) Φ) {i:Nat} {x:aM} {p:Option Addr} {c:Nat} (h:(cs.drop (i*7)).take 7=x.cells p c):dH w g (i*7) (x.cells p c) :=
 cx.OE 0 rfl rfl (zY h)
theorem aHU {W w:World} {S:List Own} {Φ:PW} {g n cap:Nat} {cs:List Value} (cx:Ctx W w (cR (some ⟨g,0,none⟩) n cap cs :: S) Φ) {o m:Nat} (h:o+m<=cs.length):aE w g o m :=
 cx.aBk 0 rfl rfl h
theorem a8K:∀ (vs:List Value) (k:Nat) (cs:List Value) (o:Nat) (v:Value),k<vs.length->(∀ j,(hj:j<vs.length)->cs[o+j]? = some vs[j])->oB cs (o+k) [v]=oB cs o (vs.set k v):=by
 intro vs k cs o v hk h
 have b41:o+(vs.length - 1)<cs.length:=(List.getElem?_eq_some_iff.1 (h (vs.length - 1) (by omega))).1
 apply List.ext_getElem?
 intro j
 by_cases h1:j<o
 ·rw [kW _ _ _ _ (.inl (by omega)),kW _ _ _ _ (.inl h1)]
 ·by_cases h2:o+vs.length<=j
  ·rw [kW _ _ _ _ (.inr (by simp;omega)),kW _ _ _ _ (.inr (by rw [List.length_set];exact h2))]
  ·obtain ⟨m,rfl⟩:∃ m,j=o+m:=⟨j - o,by omega⟩
   rw [CZ (vs.set k v) cs o m (by rw [List.length_set];omega) (by rw [List.length_set];omega)]
   by_cases h3:m=k
   ·subst h3
    have:=CZ [v] cs (o+m) 0 (by simp) (by simp;omega)
    rw [Nat.add_zero] at this
    rw [this,List.getElem?_set_self hk]
    rfl
   ·rw [kW _ _ _ _ (by simp;omega),List.getElem?_set_ne (by omega),h m (by omega),List.getElem?_eq_getElem (by omega)]
end Go.Proofs.YtfccagphnfceiaaGreatDoor
end

section
namespace Go.Proofs.YtfccagphnfceiaaGreatDoor
open Go.Vc
structure j0 where
 kind:Int
 key:List Int
 dZ:List Int
 lines:List aM
 dN:Int
 aside:List aM
def yF (s:j0):Int:=s.dZ.getLast?.getD 0
def ML (s:j0) (b:Int):Bool:=decide (b∈s.dZ)
def a45 (key:List Int) (r:List cG):Bool:=key.any λk=>decide ((r.length:Int)<=k)
def FO (key:List Int) (b:Int) (x:aM):Bool:=decide (x.batch≠b)||decide (x.n=0) || !eD x.row||a45 key x.row
def a0X:Int->List aM->Bool
 | _,[]=>true
 | n,x :: l=>decide (x.no=n)&&a0X (n+1) l
def rZ (s:j0) (b:Int) (L:List aM):Int :=
 if b<1 then 25 else if b<=yF s then 25 else if L.any (FO s.key b)=true then 1 else if a0X ((s.lines.length:Int)+1) L=false then 25 else 0
def nY (s:j0) (b:Int) (L:List aM):j0:={ s with dZ:=s.dZ++[b],lines:=s.lines++L }
def mY (s:j0) (b:Int) (L:List aM):Int × j0 :=
 if s.kind≠0 then (7,s) else if ML s b=true then (0,s) else if rZ s b L≠0 then (rZ s b L,s) else (0,{ s with dN:=b,aside:=L })
def uT (s:j0) (b:Int):Int × j0 :=
 if s.kind≠0 then (7,s) else if ML s b=true then (0,s) else if (decide (b<1)||decide (b≠s.dN))=true then (4,s) else (0,{ nY s b s.aside with dN:=0,aside:=[] })
def AN (s:j0) (b:Int):Int × j0 :=
 if s.kind≠0 then (7,s) else if ML s b=true then (7,s) else if (decide (b<1)||decide (b≠s.dN))=true then (4,s) else (0,{ s with dN:=0,aside:=[] })
def jV (s:j0) (b:Int) (L:List aM):Int × j0 :=
 if s.kind=0 then (7,s) else if ML s b=true then (0,s) else if rZ s b L≠0 then (rZ s b L,s) else (0,nY s b L)
def opK (k:Int) (s:j0) (b:Int) (L:List aM):Int × j0 :=
 if k=0 then mY s b L else if k=1 then mY s b L else if k=2 then uT s b else if k=3 then AN s b else if k=6 then (0,s) else if k=7 then (0,s) else jV s b L
structure WX (s:j0):Prop where
 asc:s.dZ.Pairwise (· < ·)
 pos:∀ b∈s.dZ,1<=b/\aR b
 row:∀ x∈s.lines,eD x.row=true
 aKr:∀ x∈s.aside,eD x.row=true
structure KZ (s:j0) (n:Nat):Prop where
 dZ:s.dZ.length<=20*n
 lines:s.lines.length<=n
 aside:s.aside.length<=n
 key:s.key.length<=20*n
structure KP where
 sb:Nat
 kp:Option Addr
 kc:Nat
 bp:Option Addr
 bc:Nat
 lp:Option Addr
 lc:Nat
 cs:List Value
 ap:Option Addr
 ac:Nat
abbrev SkB (q:KP) (st:j0):List Value:=[.int .i64 st.kind,.slice q.kp st.key.length q.kc,.slice q.bp st.dZ.length q.bc,.slice q.lp st.lines.length q.lc,.int .i64 st.dN,.slice q.ap st.aside.length q.ac]
abbrev dP (q:KP) (st:j0):List Own:=[.blk q.sb (SkB q st) 92,wU q.bp q.bc st.dZ,cR q.lp st.lines.length q.lc q.cs]
abbrev nF (q:KP) (st:j0):PW:=λM w=>aQ M w q.cs st.lines/\(Sl M w q.kp st.key/\Sl M w q.ap st.aside)
structure AX (q:KP) (st:j0):Prop where
 lpt:0<st.lines.length->∃ g,q.lp=some ⟨g,0,none⟩
 bpt:0<st.dZ.length->∃ g,q.bp=some ⟨g,0,none⟩
 aOO:st.lines.length<=q.lc/\q.lc<=maxLen
 aOP:st.dZ.length<=q.bc/\q.bc<=maxLen
 aBw:st.key.length<=q.kc/\q.kc<=maxLen
 aOQ:st.aside.length<=q.ac/\q.ac<=maxLen
 len:q.cs.length=st.lines.length*7
abbrev snk (q:KP):Value:=.pointer (some ⟨q.sb,0,none⟩)
theorem GZ {r:List cG} (h:eD r=true):r.length<=12:=by
 unfold eD at h
 rw [Bool.and_eq_true] at h
 have:=of_decide_eq_true h.1
 omega
theorem a2z {s:j0} (h:s.dZ.length≠0):yF s=s.dZ[s.dZ.length - 1]'(by omega):=by
 unfold yF
 rw [List.getLast?_eq_getElem?,List.getElem?_eq_getElem (by omega)];rfl
theorem aFQ {s:j0} (hI:WX s) {b:Int} (h:b∈s.dZ):b<=yF s:=by
 obtain ⟨i,hi,rfl⟩:=List.getElem_of_mem h
 rw [a2z (by omega)]
 rcases Nat.lt_or_ge i (s.dZ.length - 1) with h|h
 ·exact Int.le_of_lt (List.pairwise_iff_getElem.1 hI.asc i (s.dZ.length - 1) hi (by omega) h)
 ·have:i=s.dZ.length - 1:=by omega
  subst this;exact Int.le_refl _
theorem look_ok {s:j0} {b:Int} {L:List aM} (h:¬ rZ s b L≠0):1<=b/\yF s<b/\(∀ x∈L,FO s.key b x=false)/\a0X ((s.lines.length:Int)+1) L=true:=by
 have h:rZ s b L=0:=Decidable.not_not.1 h
 unfold rZ at h
 split at h
 ·exact absurd h (by decide)
 split at h
 ·exact absurd h (by decide)
 split at h
 ·exact absurd h (by decide)
 split at h
 ·exact absurd h (by decide)
 rename_i h1 h2 h3 h4
 exact ⟨by omega,by omega,λx hx=>by simpa using List.any_eq_false.1 (by simpa using h3) x hx,by simpa using h4⟩
theorem OI {key:List Int} {b:Int} {x:aM} (h:FO key b x=false):x.batch=b/\x.n≠0/\eD x.row=true/\a45 key x.row=false:=by
 unfold FO at h
 rw [Bool.or_eq_false_iff,Bool.or_eq_false_iff,Bool.or_eq_false_iff] at h
 exact ⟨Decidable.not_not.1 (of_decide_eq_false h.1.1.1),of_decide_eq_false h.1.1.2,by simpa using h.1.2,h.2⟩
theorem aKs {s:j0} (hI:WX s) {b:Int} {L:List aM} (h1:yF s<b) (h2:1<=b) (h3:aR b) (h4:∀ x∈L,eD x.row=true):WX (nY s b L) where
 asc:=List.pairwise_append.2 ⟨hI.asc,List.pairwise_singleton _ _,λa ha c hc=>by
  rw [List.mem_singleton.1 hc]
  have:=aFQ hI ha
  omega⟩
 pos:=λa ha=>(List.mem_append.1 ha).elim (hI.pos a) λh=>by rw [List.mem_singleton.1 h];exact ⟨h2,h3⟩
 row:=λx hx=>(List.mem_append.1 hx).elim (hI.row x) (h4 x)
 aKr:=hI.aKr
theorem aKt {s:j0} (hI:WX s) {b:Int} {L:List aM}:WX (mY s b L).2:=by
 unfold mY
 split
 ·exact hI
 split
 ·exact hI
 split
 ·exact hI
 rename_i h1
 obtain ⟨g1,g2,g3,_⟩:=look_ok h1
 exact ⟨hI.asc,hI.pos,hI.row,λx hx=>(OI (g3 x hx)).2.2.1⟩
def aBx (s:j0):Prop:=s.dN≠0->yF s<s.dN
theorem aKu {s:j0} {n m:Nat} (h:KZ s n) {b:Int} {L:List aM} (hL:L.length<=m):KZ (mY s b L).2 (n+m):=by
 have hm:KZ s (n+m):=⟨by have:=h.dZ;omega,by have:=h.lines;omega,by have:=h.aside;omega,by have:=h.key;omega⟩
 unfold mY
 split
 ·exact hm
 split
 ·exact hm
 split
 ·exact hm
 exact ⟨hm.dZ,hm.lines,by show L.length<=_;omega,hm.key⟩
section
variable {Φ:PW} {q:KP} {st:j0} {W w:World} {R S G:List Own} {p:Option Addr} {cap:Nat}
theorem oK (cx:Ctx W w ((dP q st++R)++G) Φ) {i:Nat} {v:Value} (h:(SkB q st)[i]? = some v):w.cell? ⟨q.sb,i,none⟩=some v:=cx.get 0 rfl h
structure a8L (S:List Own) (Φ:PW) (p:Option Addr) (l:List Int):Prop where
 ptr:0<l.length->∃ b o,p=some ⟨b,o,none⟩
 rd:∀ {W w:World} {G:List Own} {b o:Nat},p=some ⟨b,o,none⟩->Ctx W w (S++G) Φ->∀ i (h:i<l.length),w.cell? ⟨b,o+i,none⟩=some (.int .i64 l[i])
theorem a8L.app {l:List Int} (h:a8L S Φ p l):a8L (S++R) Φ p l:=⟨h.ptr,λe c=>h.rd e (c.re (List.append_assoc _ _ _))⟩
theorem OJ (hq:AX q st):a8L (dP q st) Φ q.bp st.dZ where
 ptr:=λh=>by obtain ⟨g,hg⟩:=hq.bpt h;exact ⟨g,0,hg⟩
 rd:=fun {W w G b o} e c i h=>by
  obtain ⟨g,hg⟩:=hq.bpt (by omega)
  rw [hg] at e
  cases e
  rw [Nat.zero_add]
  exact c.a4V 1 rfl hg (by rw [List.getElem?_map,List.getElem?_eq_getElem h];rfl)
theorem aKv [aA Φ] (hq:AX q st):jU (dP q st) Φ Tryz.prog F.rM #[snk q] (.int .i64 (yF st)):=by
 refine rX (HT q.sb 0) λW R=>λw G cx=>⟨_,_,_,oK (i:=2) cx rfl,Br.intro (λh=>λw G cx=>⟨?_,cx.left⟩) (λh=>λw G cx=>⟨_,_,_,oK (i:=2) cx rfl,_,_,_,oK (i:=2) cx rfl,?_⟩)⟩
 ·have h:=of_decide_eq_true h
  have:st.dZ=[]:=List.eq_nil_of_length_eq_zero (by omega)
  unfold yF
  rw [this];rfl
 ·have h:=of_decide_eq_false h
  have h0:st.dZ.length≠0:=by omega
  have hb:=hq.aOP
  unfold maxLen at hb
  obtain ⟨g,hg⟩:=hq.bpt (by omega)
  refine ⟨by unfold aR;omega,by omega,aJ g 0 hg ⟨yF st,?_,λw G cx=>⟨rfl,cx.left⟩⟩⟩
  have:=(OJ (Φ:=Φ) hq).rd hg (G:=R++G) (cx.re (List.append_assoc _ _ _)) (st.dZ.length - 1) (by omega)
  rw [a2z h0,show ((st.dZ.length:Int) - 1).toNat=st.dZ.length - 1 by omega]
  exact this
theorem a47 [aA Φ]:jU (dP q st) Φ Tryz.prog F.kM #[snk q] (.int .i64 st.kind) :=
 rX (HU q.sb 0) λW R=>λw G cx=>⟨_,oK (i:=0) cx rfl,λw G cx=>⟨rfl,cx.left⟩⟩
theorem a48 [aA Φ]:jU (dP q st) Φ Tryz.prog F.lJ #[snk q] (.int .i64 st.dN) :=
 rX (BK q.sb 0) λW R=>λw G cx=>⟨_,oK (i:=4) cx rfl,λw G cx=>⟨rfl,cx.left⟩⟩
theorem aBy [aA Φ]:jU (dP q st) Φ Tryz.prog F.fH #[snk q] (.int .i64 st.lines.length) :=
 rX (FD q.sb 0) λW R=>λw G cx=>⟨_,_,_,oK (i:=3) cx rfl,λw G cx=>⟨rfl,cx.left⟩⟩
theorem a63 {g:Bool} {p:Option Addr} {K:Nat->Nat->Prop} (h:g=true->∃ b o,p=some ⟨b,o,none⟩) (hk:∀ b o,(g=true->p=some ⟨b,o,none⟩)->K b o):jD (some g) p K:=by
 cases hg:g with
 | false=>exact a1N rfl λb o=>hk b o λe=>by rw [hg] at e;cases e
 | true =>
  obtain ⟨b,o,hp⟩:=h hg
  exact aJ b o hp (hk b o λ_=>hp)
theorem aKw (x:Int):Quiet Tryz.prog F.oH #[.int .i64 x] (.bool false):=quiet_of (λw J h=>E9 x w J h) λw=>⟨by simp,rfl⟩
theorem aKx (x:Int):Quiet Tryz.prog F.cmp_isNaN_int #[.int .i64 x] (.bool false):=quiet_of (λw J h=>K0 x w J h) λw=>⟨by simp,rfl⟩
theorem aKy (x y:Int):pS Tryz.prog F.wS #[.int .i64 x,.int .i64 y] (.bool (decide (x<y))) :=
 pT (MH x y) λW R Φ _=>λw G c=>⟨false,λw3 e=>(aKx x).at e,false,λh=>(by cases h),λw G c=>⟨by simp,c.left⟩⟩
theorem aBz (t:TypeId) (k:Nat) (h:k<9223372036854775808) (w:World):Sem.run Tryz.prog (binOp BinOp.shr t (.int .u64 (IntKind.u64.wrap (k:Int))) (.int .u64 1)) w=.ok (.int .u64 ((k / 2:Nat):Int)) w:=by
 have e:IntKind.u64.wrap (k:Int)=k:=by simp [IntKind.wrap,IntKind.signed,IntKind.bits];omega
 rw [e]
 show Sem.run Tryz.prog (Op.shift .shr .u64 (k:Int) .u64 1) w=_
 unfold Op.shift
 simp [Sem.run_pure]
 show (k:Int).fdiv 2=_
 rw [Int.fdiv_eq_ediv_of_nonneg _ (by decide)]
theorem aKz {k:Nat} (h:k<=1000000000):IntKind.i64.wrap (k:Int)=k:=AZ (by unfold aR;omega)
theorem aBA [aA Φ] {l:List Int} (src:a8L S Φ p l) (asc:l.Pairwise (· < ·)) (hlen:l.length<=10000000) (t:Int) (c:Ctx W w S Φ) :
  Calls Tryz.prog F.fO #[.slice p l.length cap,.int .i64 t] w λe w'=>∃ n,e=.returned (.tuple #[.int .i64 n,.bool (decide (t∈l))])/\Ctx W w' S Φ:=by
 refine (rU p l.length cap t (J:=λv w'=>∃ n,v=.tuple #[.int .i64 n,.bool (decide (t∈l))]/\Ctx W w' S Φ) c ?_).mono λe w' ⟨v,he,n,hv,cx⟩=>⟨n,by rw [he,hv],cx⟩
 clear c
 have hs:=List.pairwise_iff_getElem.1 asc
 refine bY (λiI jI R' aF k=>∃ i j:Nat,iI=i/\jI=j/\i<=j/\j<=l.length/\(∀ a (h:a<l.length),a<i->l[a]<t)/\(∀ a (h:a<l.length),j<=a->t<=l[a])/\R'=S/\aF=Φ/\k=j - i)
  ⟨⟨S,Φ,_,inferInstance,λw G c=>c,0,l.length,rfl,rfl,Nat.zero_le _,Nat.le_refl _,λa h h0=>by omega,λa h h0=>by omega,rfl,rfl,rfl⟩,?_⟩
 rintro iI jI R1 bH k _ ⟨i,j,rfl,rfl,hij,hj,hlo,hhi,rfl,rfl,rfl⟩
 refine Br.intro (λhlt=>?_) (λhge=>λw G cx=>?_)
 ·have hlt:i<j:=by have:=of_decide_eq_true hlt;omega
  obtain ⟨h,hh⟩:∃ h,(i+j) / 2=h:=⟨_,rfl⟩
  obtain ⟨b,o,hp⟩:=src.ptr (by omega)
  have hhl:h<l.length:=by omega
  refine ⟨by unfold aR;omega,((h:Nat):Int),λw=>by rw [show ((i:Int)+(j:Int))=((i+j:Nat):Int) by omega,<-hh];exact aBz _ _ (by omega) w,?_⟩
  rw [aKz (by omega)]
  refine ⟨by omega,aJ b o hp λw G cx=>⟨l[h],by rw [Int.toNat_natCast];exact src.rd hp cx h hhl,λw G cx=>(aKy _ _).use cx λw cx=>⟨_,rfl,R1,bH,inferInstance,cx,Br.intro (λhc=>?_) (λhc=>?_)⟩⟩⟩
  ·have hc:=of_decide_eq_true hc
   refine ⟨by unfold aR;omega,R1,bH,j - (h+1),inferInstance,λw G c=>c,⟨h+1,j,by omega,rfl,by omega,hj,λa ha h1=>?_,hhi,rfl,rfl,rfl⟩,by omega⟩
   rcases Nat.lt_or_ge a h with h2|h2
   ·have:=hs a h ha hhl h2
    omega
   ·have:a=h:=by omega
    subst this;exact hc
  ·have hc:=of_decide_eq_false hc
   refine ⟨R1,bH,h - i,inferInstance,λw G c=>c,⟨i,h,rfl,rfl,by omega,by omega,hlo,λa ha h1=>?_,rfl,rfl,rfl⟩,by omega⟩
   rcases Nat.lt_or_ge h a with h2|h2
   ·have:=hs h a hhl ha h2
    omega
   ·have:a=h:=by omega
    subst this;omega
 ·have hge:i=j:=by have:=of_decide_eq_false hge;omega
  subst hge
  have hmem:(t∈l) ↔ ∃ h:i<l.length,l[i]=t:=by
   refine ⟨λhm=>?_,λ⟨h,e⟩=>e ▸ List.getElem_mem h⟩
   obtain ⟨a,ha,rfl⟩:=List.getElem_of_mem hm
   rcases Nat.lt_trichotomy a i with h1|h1|h1
   ·exact absurd (hlo a ha h1) (Int.lt_irrefl _)
   ·subst h1;exact ⟨ha,rfl⟩
   ·have:=hs i a (by omega) ha h1
    have:=hhi i (by omega) (Nat.le_refl _)
    omega
  have hcell:∀ {b o:Nat} {c:Bool},(decide ((i:Int)<(l.length:Int))&&c)=true->((decide ((i:Int)<(l.length:Int))&&c)=true->p=some ⟨b,o,none⟩)->w.cell? ⟨b,o+((i:Nat):Int).toNat,none⟩=some (.int .i64 ((l[i]?).getD 0)):=fun {b o c} h hb=>by
   have hl:i<l.length:=by have:=of_decide_eq_true (Bool.and_eq_true_iff.1 h).1;omega
   rw [Int.toNat_natCast,List.getElem?_eq_getElem hl]
   exact src.rd (hb h) cx i hl
  have aKA:∀ {b o:Nat},decide ((i:Int)<(l.length:Int))=true->(decide ((i:Int)<(l.length:Int))=true->p=some ⟨b,o,none⟩)->w.cell? ⟨b,o+((i:Nat):Int).toNat,none⟩=some (.int .i64 ((l[i]?).getD 0)):=fun {b o} h hb=>hcell (c:=true) (by rw [h];rfl) (λ_=>hb h)
  refine ⟨λh=>by have:=of_decide_eq_true h;omega,a63 (λh=>src.ptr (by have:=of_decide_eq_true h;omega)) λb o hb=>⟨(l[i]?).getD 0,λh=>aKA h hb,λh=>by have:=of_decide_eq_true (Bool.and_eq_true_iff.1 h).1;omega,a63 (λh=>src.ptr (by have:=of_decide_eq_true (Bool.and_eq_true_iff.1 h).1;omega)) λb2 o2 hb2=>⟨(l[i]?).getD 0,λh=>hcell h hb2,false,λ_ w e=>(aKw _).at e,false,λh=>absurd h (by simp),λw G cx=>⟨((i:Nat):Int),?_,cx.left⟩⟩⟩⟩
  have:(decide ((i:Int)<(l.length:Int))&&(decide ((l[i]?).getD 0=t)||false&&false))=decide (t∈l):=by
   rcases Nat.lt_or_ge i l.length with hl|hl
   ·rw [List.getElem?_eq_getElem hl,decide_eq_true (p:=(i:Int)<(l.length:Int)) (by omega),Bool.and_false,Bool.or_false,Bool.true_and]
    exact decide_eq_decide.2 ⟨λh=>hmem.2 ⟨hl,h⟩,λh=>(hmem.1 h).2⟩
   ·rw [decide_eq_false (p:=(i:Int)<(l.length:Int)) (by omega),Bool.false_and]
    exact (decide_eq_false λh=>by have:=(hmem.1 h).1;omega).symm
  rw [this]
theorem a65 [aA Φ] (hq:AX q st) (hI:WX st) {n:Nat} (hs:KZ st n) (hn:n<=400000) {b:Int}:jU (dP q st) Φ Tryz.prog F.jT #[snk q,.int .i64 b] (.bool (ML st b)) :=
 rX (JZ q.sb 0 b) λW R=>λw G cx=>⟨_,_,_,oK (i:=2) cx rfl,λw G cx =>
  (aBA (S:=(dP q st++R)++G) (OJ (Φ:=Φ) hq).app.app hI.asc (by have:=hs.dZ;omega) b cx).mono λe w' ⟨n,he,cx⟩=>⟨n,_,he,_,_,inferInstance,cx,λw G cx=>⟨rfl,cx.left⟩⟩⟩
end
end Go.Proofs.YtfccagphnfceiaaGreatDoor
end

section
namespace Go.Proofs
open Go.Shelf
def Tryz.QB:Go.Shelf.Ren:=⟨fun|169=>144|n=>n,fun|70=>163|9=>9|0=>0|72=>165|37=>129|127=>197|3=>3|5=>5|n=>n,fun|n=>n⟩
theorem Tryz.aFR:Go.Proofs.Lays.n169 Tryz.prog Tryz.QB:={
 mixed:=by kernel_rfl
 f169:=Tryz.func144.trans (congrArg some (by kernel_rfl))
 t0:=Tryz.underlying0
 a0:=Tryz.isAgg0
 z0:=Tryz.sizeOf0
 v0:=Tryz.zeroValue0
 t3:=Tryz.underlying3
 a3:=Tryz.isAgg3
 z3:=Tryz.sizeOf3
 v3:=Tryz.zeroValue3
 t9:=Tryz.underlying9
 a9:=Tryz.isAgg9
 z9:=Tryz.sizeOf9
 v9:=Tryz.zeroValue9
 t37:=Tryz.underlying129
 a37:=Tryz.isAgg129
 z37:=Tryz.sizeOf129
 v37:=Tryz.zeroValue129
 t70:=Tryz.underlying163
 a70:=Tryz.isAgg163
 z70:=Tryz.sizeOf163
 v70:=Tryz.zeroValue163
 t72:=Tryz.underlying165
 a72:=Tryz.isAgg165
 z72:=Tryz.sizeOf165
 v72:=Tryz.zeroValue165
 t127:=Tryz.underlying197
 a127:=Tryz.isAgg197
 z127:=Tryz.sizeOf197
 v127:=Tryz.zeroValue197 }
theorem Tryz.MM:Builder.Extra Tryz.prog Tryz.QB:={
 sizeBuilder:=by kernel_rfl
 liesBuilder:=by kernel_rfl
 t5:=Tryz.underlying5
 a5:=Tryz.isAgg5
 z5:=Tryz.sizeOf5
 v5:=Tryz.zeroValue5
 infoByte:=by kernel_rfl
 cellsByte:=by kernel_rfl
 sizeByte:=by kernel_rfl
 neB5:=by decide }
def Tryz.a2A:Go.Shelf.Ren:=⟨fun|137=>195|217=>208|266=>216|n=>n,fun|9=>9|5=>5|3=>3|n=>n,fun|n=>n⟩
theorem Tryz.aFS:Go.Proofs.Lays.n137 Tryz.prog Tryz.a2A:={
 mixed:=by kernel_rfl
 f137:=Tryz.func195.trans (congrArg some (by kernel_rfl))
 f217:=Tryz.func208.trans (congrArg some (by kernel_rfl))
 f266:=Tryz.func216.trans (congrArg some (by kernel_rfl))
 t3:=Tryz.underlying3
 a3:=Tryz.isAgg3
 z3:=Tryz.sizeOf3
 v3:=Tryz.zeroValue3
 t5:=Tryz.underlying5
 a5:=Tryz.isAgg5
 z5:=Tryz.sizeOf5
 v5:=Tryz.zeroValue5
 t9:=Tryz.underlying9
 a9:=Tryz.isAgg9
 z9:=Tryz.sizeOf9
 v9:=Tryz.zeroValue9 }
def Tryz.a2B:Go.Shelf.Ren:=⟨fun|103=>197|210=>211|206=>222|n=>n,fun|9=>9|4=>4|24=>103|3=>3|n=>n,fun|n=>n⟩
theorem Tryz.aFT:Go.Proofs.Lays.n103 Tryz.prog Tryz.a2B:={
 mixed:=by kernel_rfl
 f103:=Tryz.func197.trans (congrArg some (by kernel_rfl))
 f206:=Tryz.func222.trans (congrArg some (by kernel_rfl))
 f210:=Tryz.func211.trans (congrArg some (by kernel_rfl))
 t3:=Tryz.underlying3
 a3:=Tryz.isAgg3
 z3:=Tryz.sizeOf3
 v3:=Tryz.zeroValue3
 t4:=Tryz.underlying4
 a4:=Tryz.isAgg4
 z4:=Tryz.sizeOf4
 v4:=Tryz.zeroValue4
 t9:=Tryz.underlying9
 a9:=Tryz.isAgg9
 z9:=Tryz.sizeOf9
 v9:=Tryz.zeroValue9
 t24:=Tryz.underlying103
 a24:=Tryz.isAgg103
 z24:=Tryz.sizeOf103
 v24:=Tryz.zeroValue103 }
def Tryz.a0Z:Go.Shelf.Ren:=⟨fun|171=>138|243=>179|246=>200|283=>212|284=>213|285=>214|286=>215|129=>224|317=>223|318=>225|319=>226|320=>227|337=>231|338=>232|n=>n,fun|3=>3|9=>9|2=>2|4=>4|171=>215|0=>0|53=>216|37=>129|5=>5|173=>219|212=>229|51=>230|20=>20|213=>231|46=>122|232=>243|233=>244|n=>n,fun|17=>1|18=>5|19=>6|n=>n⟩
theorem Tryz.aBB:Go.Proofs.LaysM.n171 Tryz.prog Tryz.a0Z:={
 mixed:=by kernel_rfl
 f129:=Tryz.func224.trans (congrArg some (by kernel_rfl))
 f171:=Tryz.func138.trans (congrArg some (by kernel_rfl))
 f243:=Tryz.func179.trans (congrArg some (by kernel_rfl))
 f246:=Tryz.func200.trans (congrArg some (by kernel_rfl))
 f283:=Tryz.func212.trans (congrArg some (by kernel_rfl))
 f284:=Tryz.func213.trans (congrArg some (by kernel_rfl))
 f285:=Tryz.func214.trans (congrArg some (by kernel_rfl))
 f286:=Tryz.func215.trans (congrArg some (by kernel_rfl))
 f317:=Tryz.func223.trans (congrArg some (by kernel_rfl))
 f318:=Tryz.func225.trans (congrArg some (by kernel_rfl))
 f319:=Tryz.func226.trans (congrArg some (by kernel_rfl))
 f320:=Tryz.func227.trans (congrArg some (by kernel_rfl))
 f337:=Tryz.func231.trans (congrArg some (by kernel_rfl))
 f338:=Tryz.func232.trans (congrArg some (by kernel_rfl))
 t0:=Tryz.underlying0
 a0:=Tryz.isAgg0
 z0:=Tryz.sizeOf0
 v0:=Tryz.zeroValue0
 t2:=Tryz.underlying2
 a2:=Tryz.isAgg2
 z2:=Tryz.sizeOf2
 v2:=Tryz.zeroValue2
 t3:=Tryz.underlying3
 a3:=Tryz.isAgg3
 z3:=Tryz.sizeOf3
 v3:=Tryz.zeroValue3
 t4:=Tryz.underlying4
 a4:=Tryz.isAgg4
 z4:=Tryz.sizeOf4
 v4:=Tryz.zeroValue4
 t5:=Tryz.underlying5
 a5:=Tryz.isAgg5
 z5:=Tryz.sizeOf5
 v5:=Tryz.zeroValue5
 t9:=Tryz.underlying9
 a9:=Tryz.isAgg9
 z9:=Tryz.sizeOf9
 v9:=Tryz.zeroValue9
 t20:=Tryz.underlying20
 a20:=Tryz.isAgg20
 z20:=Tryz.sizeOf20
 v20:=Tryz.zeroValue20
 t37:=Tryz.underlying129
 a37:=Tryz.isAgg129
 z37:=Tryz.sizeOf129
 v37:=Tryz.zeroValue129
 t46:=Tryz.underlying122
 a46:=Tryz.isAgg122
 z46:=Tryz.sizeOf122
 v46:=Tryz.zeroValue122
 t51:=Tryz.underlying230
 a51:=Tryz.isAgg230
 z51:=Tryz.sizeOf230
 v51:=Tryz.zeroValue230
 t53:=Tryz.underlying216
 a53:=Tryz.isAgg216
 z53:=Tryz.sizeOf216
 v53:=Tryz.zeroValue216
 t171:=Tryz.underlying215
 a171:=Tryz.isAgg215
 z171:=Tryz.sizeOf215
 v171:=Tryz.zeroValue215
 t173:=Tryz.underlying219
 a173:=Tryz.isAgg219
 z173:=Tryz.sizeOf219
 v173:=Tryz.zeroValue219
 t212:=Tryz.underlying229
 a212:=Tryz.isAgg229
 z212:=Tryz.sizeOf229
 v212:=Tryz.zeroValue229
 t213:=Tryz.underlying231
 a213:=Tryz.isAgg231
 z213:=Tryz.sizeOf231
 t232:=Tryz.underlying243
 a232:=Tryz.isAgg243
 z232:=Tryz.sizeOf243
 v232:=Tryz.zeroValue243
 t233:=Tryz.underlying244
 a233:=Tryz.isAgg244
 z233:=Tryz.sizeOf244
 v233:=Tryz.zeroValue244
 g17:=by kernel_rfl
 g18:=by kernel_rfl
 g19:=by kernel_rfl
 i0:=by kernel_rfl
 i2:=by kernel_rfl
 i3:=by kernel_rfl
 i4:=by kernel_rfl
 i5:=by kernel_rfl
 i9:=by kernel_rfl
 i20:=by kernel_rfl
 i37:=by kernel_rfl
 i46:=by kernel_rfl
 i51:=by kernel_rfl
 i53:=by kernel_rfl
 i171:=by kernel_rfl
 i173:=by kernel_rfl
 i212:=by kernel_rfl
 i232:=by kernel_rfl
 i233:=by kernel_rfl
 m17:=by kernel_rfl
 m18:=by kernel_rfl
 m19:=by kernel_rfl }
def Tryz.a2C:Go.Shelf.Ren:=⟨fun|171=>138|243=>179|246=>200|283=>212|284=>213|285=>214|286=>215|129=>224|317=>223|318=>225|319=>226|320=>227|337=>231|338=>232|n=>n,fun|3=>3|9=>9|2=>2|4=>4|171=>215|0=>0|53=>216|37=>129|5=>5|173=>219|212=>229|51=>230|20=>20|213=>231|46=>122|232=>243|233=>244|n=>n,fun|17=>1|18=>5|19=>6|n=>n⟩
theorem Tryz.aFU:Go.Proofs.Lays.n171 Tryz.prog Tryz.a2C:={
 mixed:=by kernel_rfl
 f129:=Tryz.func224.trans (congrArg some (by kernel_rfl))
 f171:=Tryz.func138.trans (congrArg some (by kernel_rfl))
 f243:=Tryz.func179.trans (congrArg some (by kernel_rfl))
 f246:=Tryz.func200.trans (congrArg some (by kernel_rfl))
 f283:=Tryz.func212.trans (congrArg some (by kernel_rfl))
 f284:=Tryz.func213.trans (congrArg some (by kernel_rfl))
 f285:=Tryz.func214.trans (congrArg some (by kernel_rfl))
 f286:=Tryz.func215.trans (congrArg some (by kernel_rfl))
 f317:=Tryz.func223.trans (congrArg some (by kernel_rfl))
 f318:=Tryz.func225.trans (congrArg some (by kernel_rfl))
 f319:=Tryz.func226.trans (congrArg some (by kernel_rfl))
 f320:=Tryz.func227.trans (congrArg some (by kernel_rfl))
 f337:=Tryz.func231.trans (congrArg some (by kernel_rfl))
 f338:=Tryz.func232.trans (congrArg some (by kernel_rfl))
 t0:=Tryz.underlying0
 a0:=Tryz.isAgg0
 z0:=Tryz.sizeOf0
 v0:=Tryz.zeroValue0
 t2:=Tryz.underlying2
 a2:=Tryz.isAgg2
 z2:=Tryz.sizeOf2
 v2:=Tryz.zeroValue2
 t3:=Tryz.underlying3
 a3:=Tryz.isAgg3
 z3:=Tryz.sizeOf3
 v3:=Tryz.zeroValue3
 t4:=Tryz.underlying4
 a4:=Tryz.isAgg4
 z4:=Tryz.sizeOf4
 v4:=Tryz.zeroValue4
 t5:=Tryz.underlying5
 a5:=Tryz.isAgg5
 z5:=Tryz.sizeOf5
 v5:=Tryz.zeroValue5
 t9:=Tryz.underlying9
 a9:=Tryz.isAgg9
 z9:=Tryz.sizeOf9
 v9:=Tryz.zeroValue9
 t20:=Tryz.underlying20
 a20:=Tryz.isAgg20
 z20:=Tryz.sizeOf20
 v20:=Tryz.zeroValue20
 t37:=Tryz.underlying129
 a37:=Tryz.isAgg129
 z37:=Tryz.sizeOf129
 v37:=Tryz.zeroValue129
 t46:=Tryz.underlying122
 a46:=Tryz.isAgg122
 z46:=Tryz.sizeOf122
 v46:=Tryz.zeroValue122
 t51:=Tryz.underlying230
 a51:=Tryz.isAgg230
 z51:=Tryz.sizeOf230
 v51:=Tryz.zeroValue230
 t53:=Tryz.underlying216
 a53:=Tryz.isAgg216
 z53:=Tryz.sizeOf216
 v53:=Tryz.zeroValue216
 t171:=Tryz.underlying215
 a171:=Tryz.isAgg215
 z171:=Tryz.sizeOf215
 v171:=Tryz.zeroValue215
 t173:=Tryz.underlying219
 a173:=Tryz.isAgg219
 z173:=Tryz.sizeOf219
 v173:=Tryz.zeroValue219
 t212:=Tryz.underlying229
 a212:=Tryz.isAgg229
 z212:=Tryz.sizeOf229
 v212:=Tryz.zeroValue229
 t213:=Tryz.underlying231
 a213:=Tryz.isAgg231
 z213:=Tryz.sizeOf231
 t232:=Tryz.underlying243
 a232:=Tryz.isAgg243
 z232:=Tryz.sizeOf243
 v232:=Tryz.zeroValue243
 t233:=Tryz.underlying244
 a233:=Tryz.isAgg244
 z233:=Tryz.sizeOf244
 v233:=Tryz.zeroValue244
 g17:=by kernel_rfl
 g18:=by kernel_rfl
 g19:=by kernel_rfl }
def Tryz.a00:Go.Shelf.Ren:=⟨fun|172=>196|244=>209|245=>210|247=>217|279=>218|280=>219|281=>220|282=>221|287=>228|316=>229|171=>138|205=>230|321=>233|322=>234|243=>179|246=>200|283=>212|284=>213|285=>214|286=>215|129=>224|317=>223|318=>225|319=>226|320=>227|337=>231|338=>232|n=>n,fun|9=>9|3=>3|75=>167|76=>168|4=>4|5=>5|167=>221|37=>129|0=>0|85=>222|2=>2|168=>224|53=>216|175=>233|46=>122|210=>236|127=>197|145=>242|143=>240|21=>21|171=>215|173=>219|212=>229|51=>230|20=>20|213=>231|232=>243|233=>244|80=>48|n=>n,fun|15=>3|16=>4|17=>1|18=>5|19=>6|n=>n⟩
theorem Tryz.UA:Go.Proofs.LaysC.n172 Tryz.prog Tryz.a00:={
 mixed:=by kernel_rfl
 f129:=Tryz.func224.trans (congrArg some (by kernel_rfl))
 f171:=Tryz.func138.trans (congrArg some (by kernel_rfl))
 f172:=Tryz.func196.trans (congrArg some (by kernel_rfl))
 f205:=Tryz.func230.trans (congrArg some (by kernel_rfl))
 f243:=Tryz.func179.trans (congrArg some (by kernel_rfl))
 f244:=Tryz.func209.trans (congrArg some (by kernel_rfl))
 f245:=Tryz.func210.trans (congrArg some (by kernel_rfl))
 f246:=Tryz.func200.trans (congrArg some (by kernel_rfl))
 f247:=Tryz.func217.trans (congrArg some (by kernel_rfl))
 f279:=Tryz.func218.trans (congrArg some (by kernel_rfl))
 f280:=Tryz.func219.trans (congrArg some (by kernel_rfl))
 f281:=Tryz.func220.trans (congrArg some (by kernel_rfl))
 f282:=Tryz.func221.trans (congrArg some (by kernel_rfl))
 f283:=Tryz.func212.trans (congrArg some (by kernel_rfl))
 f284:=Tryz.func213.trans (congrArg some (by kernel_rfl))
 f285:=Tryz.func214.trans (congrArg some (by kernel_rfl))
 f286:=Tryz.func215.trans (congrArg some (by kernel_rfl))
 f287:=Tryz.func228.trans (congrArg some (by kernel_rfl))
 f316:=Tryz.func229.trans (congrArg some (by kernel_rfl))
 f317:=Tryz.func223.trans (congrArg some (by kernel_rfl))
 f318:=Tryz.func225.trans (congrArg some (by kernel_rfl))
 f319:=Tryz.func226.trans (congrArg some (by kernel_rfl))
 f320:=Tryz.func227.trans (congrArg some (by kernel_rfl))
 f321:=Tryz.func233.trans (congrArg some (by kernel_rfl))
 f322:=Tryz.func234.trans (congrArg some (by kernel_rfl))
 f337:=Tryz.func231.trans (congrArg some (by kernel_rfl))
 f338:=Tryz.func232.trans (congrArg some (by kernel_rfl))
 t0:=Tryz.underlying0
 a0:=Tryz.isAgg0
 z0:=Tryz.sizeOf0
 v0:=Tryz.zeroValue0
 t2:=Tryz.underlying2
 a2:=Tryz.isAgg2
 z2:=Tryz.sizeOf2
 v2:=Tryz.zeroValue2
 t3:=Tryz.underlying3
 a3:=Tryz.isAgg3
 z3:=Tryz.sizeOf3
 v3:=Tryz.zeroValue3
 t4:=Tryz.underlying4
 a4:=Tryz.isAgg4
 z4:=Tryz.sizeOf4
 v4:=Tryz.zeroValue4
 t5:=Tryz.underlying5
 a5:=Tryz.isAgg5
 z5:=Tryz.sizeOf5
 v5:=Tryz.zeroValue5
 t9:=Tryz.underlying9
 a9:=Tryz.isAgg9
 z9:=Tryz.sizeOf9
 v9:=Tryz.zeroValue9
 t20:=Tryz.underlying20
 a20:=Tryz.isAgg20
 z20:=Tryz.sizeOf20
 v20:=Tryz.zeroValue20
 t21:=Tryz.underlying21
 a21:=Tryz.isAgg21
 z21:=Tryz.sizeOf21
 v21:=Tryz.zeroValue21
 t37:=Tryz.underlying129
 a37:=Tryz.isAgg129
 z37:=Tryz.sizeOf129
 v37:=Tryz.zeroValue129
 t46:=Tryz.underlying122
 a46:=Tryz.isAgg122
 z46:=Tryz.sizeOf122
 v46:=Tryz.zeroValue122
 t51:=Tryz.underlying230
 a51:=Tryz.isAgg230
 z51:=Tryz.sizeOf230
 v51:=Tryz.zeroValue230
 t53:=Tryz.underlying216
 a53:=Tryz.isAgg216
 z53:=Tryz.sizeOf216
 v53:=Tryz.zeroValue216
 t75:=Tryz.underlying167
 a75:=Tryz.isAgg167
 z75:=Tryz.sizeOf167
 v75:=Tryz.zeroValue167
 t76:=Tryz.underlying168
 a76:=Tryz.isAgg168
 z76:=Tryz.sizeOf168
 v76:=Tryz.zeroValue168
 t85:=Tryz.underlying222
 a85:=Tryz.isAgg222
 z85:=Tryz.sizeOf222
 v85:=Tryz.zeroValue222
 t127:=Tryz.underlying197
 a127:=Tryz.isAgg197
 z127:=Tryz.sizeOf197
 v127:=Tryz.zeroValue197
 t143:=Tryz.underlying240
 a143:=Tryz.isAgg240
 z143:=Tryz.sizeOf240
 v143:=Tryz.zeroValue240
 t145:=Tryz.underlying242
 a145:=Tryz.isAgg242
 z145:=Tryz.sizeOf242
 v145:=Tryz.zeroValue242
 t167:=Tryz.underlying221
 a167:=Tryz.isAgg221
 z167:=Tryz.sizeOf221
 v167:=Tryz.zeroValue221
 t168:=Tryz.underlying224
 a168:=Tryz.isAgg224
 z168:=Tryz.sizeOf224
 v168:=Tryz.zeroValue224
 t171:=Tryz.underlying215
 a171:=Tryz.isAgg215
 z171:=Tryz.sizeOf215
 v171:=Tryz.zeroValue215
 t173:=Tryz.underlying219
 a173:=Tryz.isAgg219
 z173:=Tryz.sizeOf219
 v173:=Tryz.zeroValue219
 t175:=Tryz.underlying233
 a175:=Tryz.isAgg233
 z175:=Tryz.sizeOf233
 v175:=Tryz.zeroValue233
 t210:=Tryz.underlying236
 a210:=Tryz.isAgg236
 z210:=Tryz.sizeOf236
 v210:=Tryz.zeroValue236
 t212:=Tryz.underlying229
 a212:=Tryz.isAgg229
 z212:=Tryz.sizeOf229
 v212:=Tryz.zeroValue229
 t213:=Tryz.underlying231
 a213:=Tryz.isAgg231
 z213:=Tryz.sizeOf231
 t232:=Tryz.underlying243
 a232:=Tryz.isAgg243
 z232:=Tryz.sizeOf243
 v232:=Tryz.zeroValue243
 t233:=Tryz.underlying244
 a233:=Tryz.isAgg244
 z233:=Tryz.sizeOf244
 v233:=Tryz.zeroValue244
 g15:=by kernel_rfl
 g16:=by kernel_rfl
 g17:=by kernel_rfl
 g18:=by kernel_rfl
 g19:=by kernel_rfl
 t80:=Tryz.underlying48
 a80:=Tryz.isAgg48
 z80:=Tryz.sizeOf48
 v80:=Tryz.zeroValue48
 i0:=by kernel_rfl
 i2:=by kernel_rfl
 i3:=by kernel_rfl
 i4:=by kernel_rfl
 i5:=by kernel_rfl
 i9:=by kernel_rfl
 i20:=by kernel_rfl
 i21:=by kernel_rfl
 i37:=by kernel_rfl
 i46:=by kernel_rfl
 i51:=by kernel_rfl
 i53:=by kernel_rfl
 i75:=by kernel_rfl
 i76:=by kernel_rfl
 i80:=by kernel_rfl
 i85:=by kernel_rfl
 i127:=by kernel_rfl
 i143:=by kernel_rfl
 i145:=by kernel_rfl
 i167:=by kernel_rfl
 i168:=by kernel_rfl
 i171:=by kernel_rfl
 i173:=by kernel_rfl
 i175:=by kernel_rfl
 i210:=by kernel_rfl
 i212:=by kernel_rfl
 i232:=by kernel_rfl
 i233:=by kernel_rfl
 m15:=by kernel_rfl
 m16:=by kernel_rfl
 m17:=by kernel_rfl
 m18:=by kernel_rfl
 m19:=by kernel_rfl
 c0:=by kernel_rfl
 c2:=by kernel_rfl
 c3:=by kernel_rfl
 c4:=by kernel_rfl
 c5:=by kernel_rfl
 c9:=by kernel_rfl
 c20:=by kernel_rfl
 c21:=by kernel_rfl
 c37:=by kernel_rfl
 c46:=by kernel_rfl
 c51:=by kernel_rfl
 c53:=by kernel_rfl
 c75:=by kernel_rfl
 c76:=by kernel_rfl
 c80:=by kernel_rfl
 c85:=by kernel_rfl
 c127:=by kernel_rfl
 c143:=by kernel_rfl
 c145:=by kernel_rfl
 c167:=by kernel_rfl
 c168:=by kernel_rfl
 c171:=by kernel_rfl
 c173:=by kernel_rfl
 c175:=by kernel_rfl
 c210:=by kernel_rfl
 c212:=by kernel_rfl
 c213:=by kernel_rfl
 c232:=by kernel_rfl
 c233:=by kernel_rfl }
end Go.Proofs
end

section
namespace Go.Proofs.YtfccagphnfceiaaGreatDoor
open Go.Vc
abbrev BdT (b:Nat) (l:List UInt8) (R:List Own):Prop:=Bd 165 5 b l R
theorem a66:∃ j,Tryz.prog.info? 165=some j/\j.size=2:=by
 have h:(Tryz.prog.info? 165).map (·.size)=some 2:=by kernel_rfl
 exact Option.map_eq_some_iff.1 h
set_option maxHeartbeats 1000000 in
set_option maxRecDepth 100000 in
theorem UB (b:Nat) (w:World) (h0:w.cell? ⟨b,0,none⟩=some (.pointer (some ⟨b,0,none⟩))) :
  Calls Tryz.prog 180 #[.pointer (some ⟨b,0,none⟩)] w λe w'=>e=.returned (.tuple #[])/\w'=w:=by
 obtain ⟨j,hj,_⟩:=a66
 go_enter Tryz.func180,Tryz.ntmps180
 go_wp2
 rw [Lib.run_neq_ptr_same w _ Tryz.underlying163 hj]
 go_wp2
 go_end0
 exact ⟨rfl,rfl⟩
set_option maxHeartbeats 1000000 in
set_option maxRecDepth 100000 in
theorem RH (b:Nat) (w:World) (h0:w.cell? ⟨b,0,none⟩=some (.pointer none)) (hsh:w.shape? b=some (165,2)) (hfz:w.frozen? ⟨b,0,none⟩=false) :
  Calls Tryz.prog 180 #[.pointer (some ⟨b,0,none⟩)] w λe w'=>e=.returned (.tuple #[])/\w'=w.setCell ⟨b,0,none⟩ (.pointer (some ⟨b,0,none⟩)):=by
 obtain ⟨j,hj,hjs⟩:=a66
 go_enter Tryz.func180,Tryz.ntmps180
 go_wp2
 rw [Lib.run_to_unsafe w ⟨b,0,none⟩ Tryz.underlying163 Tryz.underlying208 hj (by rw [hjs];decide) hsh (Nat.zero_lt_succ 1)]
 simp only [Result.andThen]
 rw [Oper.upon_value]
 go_wp2
 rw [run_callFunc_extern Tryz.func201 (by kernel_rfl) (by kernel_rfl) (by kernel_rfl) (e:=Extern.AbiNoEscape.same) (by kernel_rfl)]
 rw [Lib.run_noEscape]
 simp only [Result.andThen]
 rw [Oper.upon_value]
 go_wp2
 rw [Lib.run_from_unsafe w ⟨b,0,none⟩ Tryz.underlying208 Tryz.underlying163 hj hsh (by kernel_rfl)]
 simp only [Result.andThen]
 rw [Oper.upon_value]
 go_wp2
 go_end0
 exact ⟨rfl,rfl⟩
theorem WY {W w:World} {S:List Own} {Φ:PW} [aA Φ] {b:Nat} {pa v:Value} (hp:pa=.pointer none\/pa=.pointer (some ⟨b,0,none⟩)) (c:Ctx W w (.blk b [pa,v] 165 :: S) Φ) {K:Ending->World->Prop}
  (hk:∀ w',Ctx W w' (.blk b [.pointer (some ⟨b,0,none⟩),v] 165 :: S) Φ->K (.returned (.tuple #[])) w'):Calls Tryz.prog F.oO #[.pointer (some ⟨b,0,none⟩)] w K:=by
 have hb:w.heap[b]? = some (.cells #[pa,v] 165 (0,0)):=c.blk 0 rfl
 rcases hp with rfl|rfl
 ·exact (RH b w (c.get 0 rfl rfl) (by simp [World.shape?,hb]) (by simp [World.frozen?,hb])).mono λe w' ⟨he,hw⟩=>by
   subst he
   exact hk w' (c.put 0 hw rfl)
 ·exact (UB b w (c.get 0 rfl rfl)).mono λe w' ⟨he,hw⟩=>by
   subst he;subst hw
   exact hk w' c
theorem a8M:∃ i,Tryz.prog.info? 5=some i/\i.zero=some (.int .u8 0)/\i.size=1/\i.bytes=1:=by
 have h:(Tryz.prog.info? 5).map (λi=>(i.zero,i.size,i.bytes))=some (some (.int .u8 0),1,1):=by kernel_rfl
 obtain ⟨i,hi,he⟩:=Option.map_eq_some_iff.1 h
 simp only [Prod.mk.injEq] at he
 exact ⟨i,hi,he⟩
theorem UC (s:ByteArray):Lib.strCells s=Lib.byteCells s.data.toList:=rfl
theorem mD {W w:World} {S R:List Own} {Φ:PW} [aA Φ] {b:Nat} {l:List UInt8} (s:ByteArray) (h:BdT b l R) (c:Ctx W w (R++S) Φ) (hlen:l.length+s.size<=100000000000) {K:Ending->World->Prop}
  (hk:∀ R' w',BdT b (l++s.data.toList) R'->Ctx W w' (R'++S) Φ->K (.returned (.tuple #[.int .i64 s.size,.nilIface])) w'):Calls Tryz.prog F.bM #[.pointer (some ⟨b,0,none⟩),.string s] w K:=by
 obtain ⟨pa,p,cap,hpa,rfl⟩:=h
 obtain ⟨i,hi,hz,hsz,hby⟩:=a8M
 refine (rS b 0 s (J:=λu w'=>K (.returned u) w') c ?_).mono λe w' ⟨v,he,hj⟩=>by rw [he];exact hj
 refine λw G c=>WY hpa c λw c=>⟨rfl,[.blk b [.pointer (some ⟨b,0,none⟩),.slice p l.length cap] 165,.buf p l.length cap (Lib.byteCells l) 5 1]++S,Φ,inferInstance,c,λw G c=>⟨p,l.length,cap,c.get 0 rfl rfl,λw G c=>?_⟩⟩
 obtain ⟨p',cap',w',hrun,c'⟩:=Ctx.aKk (P:=Tryz.prog) (t:=129) (u:=9) (ty:=129) (kb:=#[false,false]) (c.swap) Tryz.underlying129 Tryz.underlying9 hi hz hsz hby s (by omega) (by unfold maxLen;omega)
 refine ⟨p',_,cap',w',hrun,[.blk b [.pointer (some ⟨b,0,none⟩),.slice p l.length cap] 165,.buf p' (l.length+s.size) cap' (Lib.byteCells l++Lib.strCells s) 5 1]++S,Φ,inferInstance,c'.swap,λw G c=>⟨c.can 0 rfl (by simp),λw' hw'=>?_⟩⟩
 refine ⟨[.blk b [.pointer (some ⟨b,0,none⟩),.slice p' (l.length+s.size) cap'] 165,.buf p' (l.length+s.size) cap' (Lib.byteCells l++Lib.strCells s) 5 1]++S,Φ,inferInstance,c.put 0 hw' rfl,λw G c=>hk [.blk b [.pointer (some ⟨b,0,none⟩),.slice p' (l.length+s.size) cap'] 165,.buf p' (l.length+s.size) cap' (Lib.byteCells l++Lib.strCells s) 5 1] w ⟨_,p',cap',.inr rfl,?_⟩ c.left⟩
 have hl:(l++s.data.toList).length=l.length+s.size:=by rw [List.length_append,Array.length_toList];rfl
 rw [hl,UC,Lib.byteCells_append]
theorem K6 {W w:World} {S R:List Own} {Φ:PW} [aA Φ] {b:Nat} {l:List UInt8} (h:BdT b l R) (c:Ctx W w (R++S) Φ) {K:Ending->World->Prop}
  (hk:∀ w',Ctx W w' S Φ->K (.returned (.string ⟨l.toArray⟩)) w'):Calls Tryz.prog F.iO #[.pointer (some ⟨b,0,none⟩)] w K :=
 Bd.string Tryz.aFR Tryz.MM h c hk
end Go.Proofs.YtfccagphnfceiaaGreatDoor
end

