/-
 WHAT A WALK OWNS: a list of blocks with their contents ('Ctx'),beside facts that stay ('Stable').
-/
import Derived.Test.YtcmgeboolmmdkaaGreatDoorCm1

set_option linter.unusedVariables false
set_option linter.unusedSimpArgs false
section
namespace Go.Vc
open Go.ChangeShapes Go.WideShapes Go.RowKit
instance aTO{α:Type}[aB α](p:Option Addr)(l:List α):O (λM w=>Δ M w p l):=⟨λhs h=>h.pQ hs⟩
instance aTI(p:Prop):O (λ_ _=>p):=⟨λ_ h=>h⟩
instance vv(Φ Ψ:List Nat->World->Prop)[O Φ][O Ψ]:O (λM w=>Φ M w/\Ψ M w):=⟨λhs h=>⟨O.step hs h.1,O.step hs h.2⟩⟩
inductive Own where
 | blk (b:Nat) (cs:List Value) (t:TypeId)
 | buf (p:Option Addr) (n c:Nat) (cs:List Value) (t:TypeId) (size:Nat)
 | obj (b:Nat) (o:Obj)
def Own.dom:Own->List Nat
 | .blk b _ _=>[b]
 | .buf (some a) _ _ _ _ _=>[a.block]
 | .buf none _ _ _ _ _=>[]
 | .obj b _=>[b]
def Own.at(w:World):Own->Prop
 | .blk b cs t=>dc w b cs t
 | .buf p n c cs t size=>w.ownsRow 0 t size (.slice p n c) n cs
 | .obj b o=>w.heap[b]? = some o
def dom(S:List Own):List Nat:=S.flatMap Own.dom
theorem Own.KM{w w'}{o:Own}(h:o.at w)(hk:∀ b∈o.dom,w'.heap[b]? = w.heap[b]?):o.at w':=by
 cases o with
 | blk b cs t=>exact dc.same h (hk b (by simp [Own.dom]))
 | obj b x=>exact (hk b (by simp [Own.dom])).trans h
 | buf p n c cs t size =>
  obtain ⟨h1,h2⟩:=h;refine ⟨h1,?_⟩;rcases h2 with h2|⟨g,cap,cur,e,h3,h4,h5⟩
  .exact .inl h2
  .cases e;exact .inr ⟨g,c,cur,rfl,h3,(hk g (by simp [Own.dom])).trans h4,h5⟩
theorem Own.Tb{w}{o:Own}(h:o.at w):∀ b∈o.dom,b<w.heap.size:=by
 have key:∀ (b:Nat) (x:Obj),w.heap[b]? = some x->b<w.heap.size:=λb x hx=>(Array.getElem?_eq_some_iff.1 hx).1;cases o with
 | blk b cs t=>intro k hk;simp [Own.dom] at hk;subst hk;exact key _ _ h
 | obj b x=>intro k hk;simp [Own.dom] at hk;subst hk;exact key _ _ h
 | buf p n c cs t size =>
  obtain ⟨_,h2⟩:=h;intro k hk;rcases h2 with ⟨h2,_⟩|⟨g,cap,cur,e,h3,h4,h5⟩
  .cases h2;simp [Own.dom] at hk
  .cases e;simp [Own.dom] at hk;subst hk;exact key _ _ h4
structure Ctx(W w:World)(S:List Own)(Φ:List Nat->World->Prop):Prop where
 qV:bZ [] W w
 own:∀ o∈S,o.at w
 BP:∀ b∈dom S,W.heap.size<=b
 nodup:(dom S).Nodup
 cy:Φ (dom S) w
section
variable {W w w':World}{S S':List Own}{Φ Ψ:List Nat->World->Prop}
theorem uz{b o}(ho:o∈S)(hb:b∈o.dom):b∈dom S:=List.mem_flatMap.2 ⟨o,ho,hb⟩
theorem Ctx.start(W)(h:Φ [] W):Ctx W W [] Φ:=⟨bZ.refl _ _,by simp,by simp [dom],by simp [dom],h⟩
theorem Ctx.lt(c:Ctx W w S Φ){b}(hb:b∈dom S):b<w.heap.size:=by
 obtain ⟨o,ho,hb⟩:=List.mem_flatMap.1 hb;exact Own.Tb (c.own o ho) b hb
theorem Ctx.go[O Φ](c:Ctx W w S Φ)(hs:Step (dom S) (dom S') w w')(ho:∀ o∈S',o.at w')(hn:(dom S').Nodup):Ctx W w' S' Φ:=by
 refine ⟨c.qV.trans hs.qV λb hb=>.inr (c.BP b hb),ho,λb hb=>?_,hn,O.step hs c.cy⟩;rcases hs.sub b hb with h|h
 .exact c.BP b h
 .exact Nat.le_trans c.qV.size h
theorem Ctx.call[O Φ](c:Ctx W w S Φ)(h:bZ [] w w'):Ctx W w' S Φ :=
 c.go ⟨h.mono (by simp),λb hb=>.inl hb⟩ (λo ho=>Own.KM (c.own o ho) λb hb=>h.block b (c.lt (uz ho hb)) (by simp)) c.nodup
theorem Ctx.draw[O Φ](c:Ctx W w S Φ)(n):Ctx W (w.drewN n) S Φ:=c.call ((bZ.refl _ _).drewN n)
theorem Ctx.new'[O Φ](c:Ctx W w S Φ)(o x)(hd:x.dom=[w.heap.size])(hx:x.at (w.alloc o)):Ctx W (w.alloc o) (x :: S) Φ:=by
 have hc:bZ [] w (w.alloc o):=(bZ.refl _ _).alloc o;have a5I:dom (x :: S)=w.heap.size :: dom S:=by simp [dom,hd]
 refine c.go ⟨hc.mono (by simp),λb hb=>?_⟩ (λU hy=>?_) ?_
 .rw [a5I] at hb;rcases List.mem_cons.1 hb with rfl|hb
  .exact .inr (Nat.le_refl _)
  .exact .inl hb
 .rcases List.mem_cons.1 hy with rfl|hy
  .exact hx
  .exact Own.KM (c.own U hy) λb hb=>hc.block b (c.lt (uz hy hb)) (by simp)
 .rw [a5I];exact List.nodup_cons.2 ⟨λhm=>by have:=c.lt hm;omega,c.nodup⟩
theorem Ctx.new[O Φ](c:Ctx W w S Φ){cs t}(e:w'=w.alloc (.cells cs t)):Ctx W w' (.blk w.heap.size cs.toList t :: S) Φ:=by
 subst e;exact c.new' _ _ rfl (by have:=dc.aGQ w cs.toList t;simpa [Own.at] using this)
abbrev aE(W:World)(R:List Own)(Φ:List Nat->World->Prop)(R':List Own)(η:List Nat->World->Prop):Prop:=∀ (w:World) (F:List Own),Ctx W w (R++F) Φ->Ctx W w (R'++F) η
abbrev ι(W:World)(R:List Own)(Φ:List Nat->World->Prop)(J:Value->World->Prop)(v:Value):Prop:=∀ (w:World) (F:List Own),Ctx W w (R++F) Φ->J v w
abbrev π(W:World)(R:List Own)(Φ:List Nat->World->Prop)(k:World->Prop):Prop:=∀ (w:World) (F:List Own),Ctx W w (R++F) Φ->k w
abbrev eD(W:World)(R:List Own)(Φ:List Nat->World->Prop)(n:Nat)(jD:List Own->(List Nat->World->Prop)->Nat->Prop):Prop:=∃ (R':List Own) (η:List Nat->World->Prop) (k:Nat),O η/\aE W R Φ R' η/\jD R' η k/\k<n
abbrev iF(W:World)(R:List Own)(Φ:List Nat->World->Prop)(jD:List Own->(List Nat->World->Prop)->Nat->Prop):Prop:=∃ (R':List Own) (η:List Nat->World->Prop) (k:Nat),O η/\aE W R Φ R' η/\jD R' η k
abbrev kQ(n:Int)(m:Nat)(p:Option Addr)(k:Nat->Nat->Prop):Prop:=(0<=n/\n<(m:Int))/\k9 none p k
theorem Ctx.newObj[O Φ](c:Ctx W w S Φ){o}(e:w'=w.alloc o):Ctx W w' (.obj w.heap.size o :: S) Φ:=by
 subst e;exact c.new' _ _ rfl (Ly w o)
theorem U3{k o o'}(hk:S[k]? = some o):dom (S.set k o')=(S.take k).flatMap Own.dom++o'.dom++(S.drop (k+1)).flatMap Own.dom:=by
 have hlt:k<S.length:=(List.getElem?_eq_some_iff.1 hk).1;rw [List.set_eq_take_append_cons_drop,if_pos hlt];simp [dom]
theorem aHk{k o}(hk:S[k]? = some o):dom S=(S.take k).flatMap Own.dom++o.dom++(S.drop (k+1)).flatMap Own.dom:=by
 have:=U3 (S:=S) (o':=o) hk
 rwa [show S.set k o=S by
  apply List.ext_getElem?;intro i;rw [List.getElem?_set];split
  .rename_i h;subst h;split
   .exact hk.symm
   .rename_i h;exact absurd (List.getElem?_eq_some_iff.1 hk).1 h
  .rfl] at this
theorem Ctx.sI[O Φ](c:Ctx W w S Φ){k o o'}(hk:S[k]? = some o)(hc:bZ o.dom w w')(hd:∀ b∈o'.dom,b∈o.dom\/w.heap.size<=b)(hn:o'.dom.Nodup)(ho:o'.at w'):Ctx W w' (S.set k o') Φ:=by
 have hmem:o∈S:=List.mem_of_getElem? hk;have e:=aHk hk;have hnd:=c.nodup;rw [e] at hnd;have hlt:∀ b∈(S.take k).flatMap Own.dom++o.dom++(S.drop (k+1)).flatMap Own.dom,b<w.heap.size:=λb hb=>c.lt (by rw [e];exact hb);refine c.go ⟨hc.mono λx hx=>uz hmem hx,λb hb=>?_⟩ (λU hy=>?_) ?_
 .rw [U3 hk] at hb;simp only [List.mem_append] at hb;rcases hb with (hb|hb)|hb
  .left;rw [e];simp [hb]
  .rcases hd b hb with h|h
   .left;rw [e];simp [h]
   .exact .inr h
  .left;rw [e];simp [hb]
 .obtain ⟨j,hj⟩:=List.getElem?_of_mem hy;rw [List.getElem?_set] at hj;split at hj
  .split at hj
   .cases hj;exact ho
   .cases hj
  .rename_i hne;refine Own.KM (c.own U (List.mem_of_getElem? hj)) λb hb=>hc.block b (c.lt (uz (List.mem_of_getElem? hj) hb)) λhm=>?_;simp only [List.nodup_append,List.mem_append] at hnd;obtain ⟨⟨_,_,h1⟩,_,h2⟩:=hnd;have hjl:j<S.length:=(List.getElem?_eq_some_iff.1 hj).1;by_cases tI:j<k
   .have:b∈(S.take k).flatMap Own.dom:=List.mem_flatMap.2 ⟨U,List.mem_of_getElem? (i:=j) (by rw [List.getElem?_take_of_lt tI];exact hj),hb⟩;exact absurd rfl (h1 b this b hm)
   .have:b∈(S.drop (k+1)).flatMap Own.dom:=List.mem_flatMap.2 ⟨U,List.mem_of_getElem? (i:=j - (k+1)) (by rw [List.getElem?_drop,show k+1+(j - (k+1))=j by omega];exact hj),hb⟩;exact absurd rfl (h2 b (.inr hm) b this)
 .rw [U3 hk];simp only [List.nodup_append,List.mem_append] at hnd ⊢;obtain ⟨⟨n1,n2,h1⟩,cN,h2⟩:=hnd;refine ⟨⟨n1,hn,λa ha b hb=>?_⟩,cN,λa ha b hb=>?_⟩
  .rcases hd b hb with h|h
   .exact h1 a ha b h
   .have:=hlt a (by simp [ha]);omega
  .rcases ha with ha|ha
   .exact h2 a (.inl ha) b hb
   .rcases hd a ha with h|h
    .exact h2 a (.inr h) b hb
    .have:=hlt b (by simp [hb]);omega
theorem Ctx.put[O Φ](c:Ctx W w S Φ)(k){b i cs t v}(e:w'=w.setCell ⟨b,i,none⟩ v)(hk:S[k]? = some (.blk b cs t)):Ctx W w' (S.set k (.blk b (cs.set i v) t)) Φ:=by
 subst e;exact c.sI hk ((bZ.refl _ _).setCell (by simp [Own.dom]) v) (by simp [Own.dom]) (by simp [Own.dom]) (dc.set (c.own _ (List.mem_of_getElem? hk)) i v)
theorem Ctx.pO[O Φ](c:Ctx W w S Φ)(k){b i cs vs t}(e:w'=w.setCells b i vs)(hk:S[k]? = some (.blk b cs t)):Ctx W w' (S.set k (.blk b (gd cs i vs) t)) Φ:=by
 subst e;exact c.sI hk ((bZ.refl _ _).setCells (by simp [Own.dom]) i vs) (by simp [Own.dom]) (by simp [Own.dom]) (dc.sets vs i (c.own _ (List.mem_of_getElem? hk)))
theorem Ctx.putObj[O Φ](c:Ctx W w S Φ)(k){b o}(o')(hk:S[k]? = some (.obj b o)):Ctx W (oX w b o') (S.set k (.obj b o')) Φ :=
 c.sI hk ((bZ.refl _ _).oX (by simp [Own.dom]) o') (by simp [Own.dom]) (by simp [Own.dom]) (aL5 _ _ (c.lt (uz (List.mem_of_getElem? hk) (by simp [Own.dom]))))
theorem Ctx.blk(c:Ctx W w S Φ)(k:Nat){b cs t}(hk:S[k]? = some (.blk b cs t)):dc w b cs t:=c.own _ (List.mem_of_getElem? hk)
theorem Ctx.get(c:Ctx W w S Φ)(k:Nat){b i cs t v}(hk:S[k]? = some (.blk b cs t))(hv:cs[i]? = some v):w.cell? ⟨b,i,none⟩=some v:=(c.blk k hk).EV hv
theorem Ctx.row(c:Ctx W w S Φ)(k:Nat){b o cs vs t}(hk:S[k]? = some (.blk b cs t))(hv:∀ j,(hj:j<vs.length)->cs[o+j]? = some vs[j]):bS w b o vs:=(c.blk k hk).row hv
theorem Ctx.oW(c:Ctx W w S Φ)(k:Nat){b cs t}(hk:S[k]? = some (.blk b cs t)):bS w b 0 cs:=(c.blk k hk).oW
theorem Ctx.can(c:Ctx W w S Φ)(k:Nat){b o n cs t}(hk:S[k]? = some (.blk b cs t))(hn:o+n<=cs.length):au w b o n:=(c.blk k hk).can hn
theorem Ctx.add(c:Ctx W w S Φ)(h:Ψ (dom S) w):Ctx W w S (λM w=>Φ M w/\Ψ M w):=⟨c.qV,c.own,c.BP,c.nodup,c.cy,h⟩
theorem Ctx.weak(c:Ctx W w S Φ)(h:∀ M w,Φ M w->Ψ M w):Ctx W w S Ψ:=⟨c.qV,c.own,c.BP,c.nodup,h _ _ c.cy⟩
theorem Ctx.sub[O Φ](c:Ctx W w S Φ)(h:S'.Sublist S):Ctx W w S' Φ :=
 c.go ⟨bZ.refl _ _,λb hb=>.inl (by
   obtain ⟨o,ho,hb⟩:=List.mem_flatMap.1 hb;exact uz (h.subset ho) hb)⟩ (λo ho=>c.own o (h.subset ho)) (by
  refine List.Nodup.sublist ?_ c.nodup;clear c
  induction h with
  | slnil=>exact List.Sublist.refl _
  | cons a _ ih=>exact ih.trans (List.sublist_append_right _ _)
  | cons_cons a _ ih=>exact List.Sublist.append (List.Sublist.refl _) ih)
theorem Ctx.drop1[O Φ]{o}(c:Ctx W w (o :: S) Φ):Ctx W w S Φ:=c.sub (List.sublist_cons_self _ _)
end
section
variable {W w:World}{S:List Own}{Φ:List Nat->World->Prop}
theorem Ctx.Gz[O Φ](c:Ctx W w S Φ)(t size):Ctx W w (.buf none 0 0 [] t size :: S) Φ :=
 c.go ⟨bZ.refl _ _,λb hb=>.inl (by simpa [dom,Own.dom] using hb)⟩ (λo ho=>by
  rcases List.mem_cons.1 ho with rfl|ho
  .exact World.ownsRow_nil _ _ _ _
  .exact c.own o ho) (by have:=c.nodup;simpa [dom,Own.dom] using this)
theorem Ctx.aAy[O Φ](c:Ctx W w S Φ)(k){b cs t}(n size)(hk:S[k]? = some (.blk b cs t))(hl:cs.length=n*size)(hm:n<=maxLen):
  Ctx W w (S.set k (.buf (some ⟨b,0,none⟩) n n cs t size)) Φ:=by
 refine c.sI hk (bZ.refl _ _) (by simp [Own.dom]) (by simp [Own.dom]) ?_;refine ⟨hl,.inr ⟨b,n,cs.toArray,rfl,Nat.zero_le _,c.blk k hk,Nat.le_refl _,hm,by simpa using hl,?_⟩⟩;simp only;rw [<-hl,List.take_length]
theorem Ctx.uS(c:Ctx W w S Φ)(k:Nat){p n cap cs t size}(hk:S[k]? = some (.buf p n cap cs t size)):cs.length=n*size/\n<=cap/\cap<=maxLen:=by
 obtain ⟨h1,h2⟩:=c.own _ (List.mem_of_getElem? hk);refine ⟨h1,?_⟩;rcases h2 with ⟨e,rfl⟩|⟨g,cap',cur,e,_,_,h3,h4,_⟩
 .cases e;simp [maxLen]
 .cases e;exact ⟨h3,h4⟩
theorem Ctx.aGV{P}(c:Ctx W w S Φ)(k:Nat){p n cap cs t size}(hk:S[k]? = some (.buf p n cap cs t size)){ts ty i}(ht:P.underlying ts=some (.slice t))(hi:P.info? t=some i)(q c2):
  (Builtin.append_ #[ts,ts] ty #[.slice p n cap,.slice q 0 c2]).run P w=.ok (.slice p n cap) w:=by
 obtain ⟨_,hn,_⟩:=c.uS k hk;have hf:(Builtin.firstCells i.size 0 (.slice q 0 c2)).run P w=.ok #[] w:=by
  cases q<;>simp [Builtin.firstCells,loadCells,loadCellsFrom]
 simp [Builtin.append_,run_underlying ht,sizeOf,typeInfo,hi,Builtin.lenOf,hn,hf,Result.andThen];cases p<;>simp [storeCells,Result.andThen]
theorem Ctx.append[O Φ]{P}(c:Ctx W w S Φ)(k){p n cap cs t size}(hk:S[k]? = some (.buf p n cap cs t size)){ts ty i z}(ht:P.underlying ts=some (.slice t))(hi:P.info? t=some i)(hz:i.zero=some z)(hs:i.size=size)(hzs:z.cells.size=size){a m c2 news}(hm:0<m)(hl:news.length=m*size)(hnews:∀ j u,news[j]? = some u->w.cell? (a.add j)=some u)(h1:∀ u∈news,ga u=true)(hbytes:(n+m)*i.bytes<=140737488355328)(hlen:n+m<=140737488355328):
  ∃ p' cap' w',(Builtin.append_ #[ts,ts] ty #[.slice p n cap,.slice (some a) m c2]).run P w=.ok (.slice p' (n+m) cap') w'/\Ctx W w' (S.set k (.buf p' (n+m) cap' (cs++news) t size)) Φ:=by
 subst hs;have QF:∀ u∈news,u.oneCell'=true:=λu hu=>by have:=h1 u hu;cases u<;>simp_all [ga,Value.oneCell']
 have hown:=c.own _ (List.mem_of_getElem? hk);obtain ⟨cW,hown⟩:=hown;have hlen':(cs++news).length=(n+m)*i.size:=by rw [List.length_append,cW,hl,Nat.add_mul]
 have grown:∀ (old:Nat),old<n+m->(∀ x∈Own.dom (.buf p n cap cs t i.size),x<w.heap.size) ->
   Ctx W (w.drew.alloc (.cells (cs.toArray++news.toArray++Builtin.zeroCells z.cells (grownCap w (n+m) old t - (n+m))) t))
    (S.set k (.buf (some ⟨w.heap.size,0,none⟩) (n+m) (grownCap w (n+m) old t) (cs++news) t i.size)) Φ:=by
  intro old ho _;have hge:=grownCap_ge w (n+m) old t;have hcm:grownCap w (n+m) old t<=maxLen:=grownCap_le_maxLen w (n+m) old t (by simp only [maxLen];omega);refine c.sI hk (((bZ.refl _ _).drewN 1).alloc _) (by simp [Own.dom]) (by simp [Own.dom]) ⟨hlen',.inr ⟨w.heap.size,_,_,rfl,Nat.zero_le _,Ly w.drew _,hge,hcm,?_,?_⟩⟩
  .simp only [Array.size_append,List.size_toArray,size_zeroCells,hzs,cW,hl,<-Nat.add_mul]
   congr 1
   omega
  .simp only [Array.toList_append,μ];rw [<-μ,<-hlen'];exact List.take_left
 rcases hown with ⟨e,rfl⟩|⟨g,cap',cur,e,_,hg,hnc,hcm,hcs,oP⟩
 .cases e;have hx:cs=[]:=List.eq_nil_of_length_eq_zero (by simpa using cW);subst hx;have hr:=run_append_nil (P:=P) w ts ty t i z ht hi hz a m c2 news hl hnews hm (by omega) (by have hb:=hbytes;simp only [Nat.zero_add] at hb;omega);have F1:=grown 0 (by omega) (by simp [Own.dom]);simp only [Nat.zero_add,List.nil_append,Array.empty_append] at F1 hr ⊢;exact ⟨_,_,_,hr,F1⟩
 .cases e;by_cases hroom:n+m<=cap
  .have hfit:n*i.size+news.length<=cur.size:=by rw [hl,hcs,<-Nat.add_mul];exact Nat.mul_le_mul_right _ hroom
   have hr:=run_append_room (P:=P) w ts ty t i ht hi g n cap cur hg a m c2 news hl hnews QF hroom hfit;refine ⟨_,_,_,hr,c.sI hk ⟨rfl,rfl,rfl,by simp,λb _ hb=>setRow_other w g b _ (by simpa [Own.dom] using hb)⟩ (by simp [Own.dom]) (by simp [Own.dom])
    ⟨hlen',.inr ⟨g,cap,_,rfl,Nat.zero_le _,setRow_heap w g cur _ t _ hg,hroom,hcm,?_,?_⟩⟩⟩
   .simp only [List.size_toArray,List.length_append,List.length_take,List.length_drop,Array.length_toList];omega
   .rw [oP,<-hlen'];exact List.take_left
  .have holds:∀ j u,cs[j]? = some u->w.cell? ((⟨g,0,none⟩:Addr).add j)=some u:=by
    intro j u hj;have hlt:j<cs.length:=(List.getElem?_eq_some_iff.1 hj).1;have h2:cur[j]? = some u:=by
     rw [<-oP,List.getElem?_take_of_lt (by omega)] at hj;simpa using hj
    rw [addr_add,Nat.zero_add];simp [World.cell?,hg,h2]
   have hr:=run_append_grow (P:=P) w ts ty t i z ht hi hz ⟨g,0,none⟩ n cap cs cW holds a m c2 news hl hnews (by omega) (by omega) (growslice_fits (by omega) hbytes);have F1:=grown cap (by omega) (λx hx=>c.lt (uz (List.mem_of_getElem? hk) hx));exact ⟨_,_,_,hr,F1⟩
theorem Ctx.uR(c:Ctx W w S Φ)(k:Nat){p n cap cs t size}(hk:S[k]? = some (.buf p n cap cs t size))(h0:0<cs.length):
  ∃ b,p=some ⟨b,0,none⟩/\b∈dom S/\∀ j v,cs[j]? = some v->w.cell? ⟨b,j,none⟩=some v/\w.frozen? ⟨b,j,none⟩=false:=by
 obtain ⟨h1,h2⟩:=c.own _ (List.mem_of_getElem? hk);rcases h2 with ⟨e,rfl⟩|⟨g,cap',cur,e,_,hg,hnc,hcm,hcs,oP⟩
 .simp at h1;subst h1;simp at h0
 .cases e;refine ⟨g,rfl,uz (List.mem_of_getElem? hk) (by simp [Own.dom]),λj v hj=>?_⟩;have hlt:j<cs.length:=(List.getElem?_eq_some_iff.1 hj).1;have h2:cur[j]? = some v:=by
   rw [<-oP,List.getElem?_take_of_lt (by omega)] at hj;simpa using hj
  exact ⟨by simp [World.cell?,hg,h2],by simp [World.frozen?,hg]⟩
def dA{α:Type}[aB α](M:List Nat)(w:World)(cs:List Value)(l:List α):Prop :=
 cs.length=l.length*(aB.ty α).size/\∀ j,(hj:j<l.length)->aB.rep M w ((cs.drop (j*(aB.ty α).size)).take (aB.ty α).size) l[j]
theorem dA.nil{α}[aB α]{M w}:dA M w [] ([]:List α):=⟨by simp,λj hj=>by simp at hj⟩
theorem dA.snoc{α}[aB α]{M w cs d}{l:List α}{x}(h:dA M w cs l)(hx:aB.rep M w d x):dA M w (cs++d) (l++[x]):=by
 have hd:=aB.len hx;refine ⟨by simp [h.1,hd,Nat.add_mul],λj hj=>?_⟩;simp only [List.length_append,List.length_singleton] at hj;by_cases hj':j<l.length
 .rw [List.getElem_append_left hj'];have:=h.2 j hj';have hle:(j+1)*(aB.ty α).size<=cs.length:=by rw [h.1];exact Nat.mul_le_mul_right _ hj'
  rw [Nat.add_mul,Nat.one_mul] at hle;rw [List.drop_append_of_le_length (by omega),List.take_append_of_le_length (by simp;omega)];exact this
 .have:j=l.length:=by omega
  subst this;rw [List.getElem_append_right (Nat.le_refl _),<-h.1,List.drop_left,<-hd,List.take_length];simpa using hx
instance aTJ{α:Type}[aB α](cs:List Value)(l:List α):O (λM w=>dA M w cs l):=⟨λhs h=>⟨h.1,λj hj=>aB.pQ hs (h.2 j hj)⟩⟩
theorem Ctx.freeze[O Φ]{α}[aB α]{p n cap cs t}{l:List α}(c:Ctx W w (.buf p n cap cs t (aB.ty α).size :: S) Φ)(h:dA (dom (.buf p n cap cs t (aB.ty α).size :: S)) w cs l):Ctx W w S Φ/\Δ (dom S) w p l/\n=l.length/\n<=cap/\cap<=maxLen:=by
 have c':=c.drop1;have hl:=c.uS 0 rfl;have hpos:0<(aB.ty α).size:=aB.pos;have hn:n=l.length:=by
  have:=hl.1.symm.trans h.1;exact Nat.eq_of_mul_eq_mul_right hpos this
 refine ⟨c',λj hj=>?_,hn,hl.2⟩;have hle:(j+1)*(aB.ty α).size<=cs.length:=by rw [h.1];exact Nat.mul_le_mul_right _ hj
 rw [Nat.add_mul,Nat.one_mul] at hle;obtain ⟨b,rfl,hb,hc⟩:=c.uR 0 rfl (by omega);refine ⟨b,0,(cs.drop (j*(aB.ty α).size)).take (aB.ty α).size,rfl,?_,λi hi=>?_,?_⟩
 .have hnd:=c.nodup;simp only [dom,List.flatMap_cons,Own.dom,List.nodup_append] at hnd;exact λhm=>hnd.2.2 b (by simp) b hm rfl
 .rw [Nat.zero_add];refine (hc _ _ ?_).1;simp only [List.length_take,List.length_drop] at hi;rw [List.getElem_take,List.getElem_drop,List.getElem?_eq_getElem]
 .exact aB.pQ ⟨bZ.refl _ _,λb hb=>.inl (by simp only [dom,List.flatMap_cons,List.mem_append];exact .inr hb)⟩ (h.2 j hj)
end
end Go.Vc
end

section
namespace Go.Vc
open Go.RowKit
abbrev θ:=List Nat->World->Prop
inductive bk where
 | v (x:Value)
 | ptr (k o:Nat)
structure aM where
 id:Nat
 b:Nat
 oZ:Nat
 cs:List Value
 t:TypeId
def aM.own(T:aM):Own:=.blk T.b T.cs T.t
def bl(k:Nat):List aM->Option aM
 | []=>none
 | T :: r=>match Nat.beq T.id k with|true=>some T|false=>bl k r
def oY(k:Nat)(cs:List Value):List aM->List aM
 | []=>[]
 | T :: r=>match Nat.beq T.id k with|true=>⟨T.id,T.b,Nat.succ T.oZ,cs,T.t⟩ :: r|false=>T :: oY k cs r
def bk.val(L:List aM):bk->Value
 | .v x=>x
 | .ptr k o=>match bl k L with|some T=>.pointer (some ⟨T.b,o,none⟩)|none=>zG
structure ai where
 n:Nat
 l:List (Nat × bk)
def vm(i:Nat):List (Nat × bk)->bk
 | []=>.v zG
 | (t,x) :: r=>match Nat.beq t i with|true=>x|false=>vm i r
def kF(L:List aM):List (Nat × bk)->List (Nat × Value)
 | []=>[]
 | (t,x) :: r=>(t,x.val L) :: kF L r
def ai.fr(L:List aM)(s:ai):Fr:=⟨s.n,kF L s.l⟩
def ai.ev(s:ai):Operand->bk
 | .tmp t=>vm t s.l
 | .const v=>.v v
 | .global g=>.v (.pointer (some ⟨g,0,none⟩))
 | .func f=>.v (.func (.func f) #[] #[])
def ai.val(s:ai)(L:List aM)(x:Operand):Value:=(s.ev x).val L
def ai.put(s:ai)(d:Option Tmp)(v:bk):ai :=
 match d with
 | some t=>match Nat.blt t s.n with
  | true=>⟨s.n,(t,v) :: s.l⟩
  | false=>s
 | none=>s
theorem Q1(L i):∀ l:List (Nat × bk),mE i (kF L l)=(vm i l).val L
 | []=>rfl
 | (t,x) :: r=>by
  simp only [kF,mE,vm];cases Nat.beq t i with
  | true=>rfl
  | false=>exact Q1 L i r
theorem ya(s:ai)(L x):(s.fr L).eval x=s.val L x:=by
 cases x with
 | tmp t=>exact Q1 L t s.l
 | const v=>rfl
 | global g=>rfl
 | func f=>rfl
theorem LH(s:ai)(L d v):(s.put d v).fr L=(s.fr L).put d (v.val L):=by
 cases d with
 | none=>rfl
 | some t =>
  simp only [ai.put,Fr.put,ai.fr];cases Nat.blt t s.n<;>rfl
structure Ext(L L':List aM):Prop where
 old:∀ k T,bl k L=some T->∃ e7,bl k L'=some e7/\e7.b=T.b/\e7.t=T.t/\T.oZ<=e7.oZ/\(e7.oZ=T.oZ->e7.cs=T.cs)
 bs:(L.map aM.b).Sublist (L'.map aM.b)
 ids:(L.map aM.id).Nodup->(L'.map aM.id).Nodup
theorem Ext.refl(L):Ext L L:=⟨λ_ T h=>⟨T,h,rfl,rfl,Nat.le_refl _,λ_=>rfl⟩,List.Sublist.refl _,id⟩
theorem Ext.trans{A B C}(h:Ext A B)(h':Ext B C):Ext A C:=⟨λk T hk=>by
 obtain ⟨T1,a1,a2,a3,a4,a5⟩:=h.old k T hk;obtain ⟨T2,b1,b2,b3,b4,KN⟩:=h'.old k T1 a1;exact ⟨T2,b1,b2.trans a2,b3.trans a3,Nat.le_trans a4 b4,λe=>by rw [KN (by omega),a5 (by omega)]⟩,h.bs.trans h'.bs,λhn=>h'.ids (h.ids hn)⟩
theorem a4J{k T}:∀ {L:List aM},bl k L=some T->T.id=k/\T∈L
 | [],h=>by cases h
 | jh :: r,h=>by
  unfold bl at h;split at h
  .rename_i hb;cases h;exact ⟨Nat.eq_of_beq_eq_true hb,by simp⟩
  .obtain ⟨h1,h2⟩:=a4J h;exact ⟨h1,List.mem_cons_of_mem _ h2⟩
theorem a4L{k cs T}(j):∀ {L:List aM},bl k L=some T->bl j (oY k cs L)=if j=k then some ⟨T.id,T.b,Nat.succ T.oZ,cs,T.t⟩ else bl j L
 | [],h=>by cases h
 | jh :: r,h=>by
  unfold bl at h;unfold oY;cases hb:Nat.beq jh.id k with
  | true =>
   rw [hb] at h;cases h;have he:=Nat.eq_of_beq_eq_true hb;simp only [bl];by_cases hj:j=k
   .subst hj;rw [hb,if_pos rfl]
   .rw [if_neg hj,show Nat.beq T.id j=false by
     cases hx:Nat.beq T.id j with
     | false=>rfl
     | true=>exact absurd ((Nat.eq_of_beq_eq_true hx).symm.trans he) hj]
  | false =>
   rw [hb] at h;have ih:=a4L (cs:=cs) j h;simp only [bl];cases hx:Nat.beq jh.id j with
   | true =>
    have:=Nat.eq_of_beq_eq_true hx;rw [if_neg (λe=>by rw [this,e] at hb;exact absurd hb (by simp))]
   | false=>exact ih
theorem Ys(k cs):∀ L:List aM,(oY k cs L).map aM.b=L.map aM.b/\(oY k cs L).map aM.id=L.map aM.id
 | []=>⟨rfl,rfl⟩
 | T :: r=>by
  unfold oY;cases Nat.beq T.id k with
  | true=>exact ⟨rfl,rfl⟩
  | false=>have:=Ys k cs r;simp [this]
theorem Ext.oY{k cs L T}(h:bl k L=some T):Ext L (oY k cs L):=by
 refine ⟨λj jh hj=>?_,by rw [(Ys k cs L).1];exact List.Sublist.refl _,by rw [(Ys k cs L).2];exact id⟩;rw [a4L j h];by_cases e:j=k
 .subst e;rw [h] at hj;cases hj;rw [if_pos rfl];exact ⟨_,rfl,rfl,rfl,Nat.le_succ _,λhh=>absurd hh (Nat.succ_ne_self _)⟩
 .rw [if_neg e];exact ⟨jh,hj,rfl,rfl,Nat.le_refl _,λ_=>rfl⟩
theorem a4K{k}:∀ {L:List aM},bl k L=none->∀ T∈L,T.id≠k
 | [],_,T,hT=>by cases hT
 | jh :: r,h,T,hT=>by
  unfold bl at h;split at h
  .cases h
  .rename_i hb;rcases List.mem_cons.1 hT with rfl|hT
   .exact Nat.ne_of_beq_eq_false hb
   .exact a4K h T hT
theorem Ext.new{L T}(h:bl T.id L=none):Ext L (T :: L):=by
 refine ⟨λj jh hj=>?_,List.sublist_cons_self _ _,λhn=>List.nodup_cons.2 ⟨λhm=>?_,hn⟩⟩
 rotate_left
 .obtain ⟨jh,cn,e⟩:=List.mem_map.1 hm;exact a4K h jh cn e
 unfold bl;cases hb:Nat.beq T.id j with
 | true=>have:=Nat.eq_of_beq_eq_true hb;rw [this,hj] at h;cases h
 | false=>exact ⟨jh,hj,rfl,rfl,Nat.le_refl _,λ_=>rfl⟩
theorem Ext.kF{L L'}(h:Ext L L'):∀ {l:List (Nat × bk)},(∀ p∈l,∀ k o,p.2=bk.ptr k o->(bl k L).isSome=true)->kF L' l=kF L l
 | [],_=>rfl
 | (t,x) :: r,hl=>by
  have ih:=Ext.kF h (l:=r) λp hp=>hl p (List.mem_cons_of_mem _ hp);simp only [Go.Vc.kF,ih];cases x with
  | v x=>rfl
  | ptr k o =>
   have:=hl (t,.ptr k o) (by simp) k o rfl;obtain ⟨T,hT⟩:=Option.isSome_iff_exists.1 this;obtain ⟨e7,h1,h2,_⟩:=h.old k T hT;simp only [bk.val,hT,h1,h2]
def ij(L:List aM)(s:ai):Prop:=∀ p∈s.l,∀ k o,p.2=bk.ptr k o->(bl k L).isSome=true
theorem ij.ext{L L' s}(h:ij L s)(he:Ext L L'):ij L' s:=λp hp k o e=>by
 obtain ⟨T,hT⟩:=Option.isSome_iff_exists.1 (h p hp k o e);obtain ⟨e7,h1,_⟩:=he.old k T hT;rw [h1];rfl
theorem ij.fr{L L' s}(h:ij L s)(he:Ext L L'):s.fr L'=s.fr L:=by
 simp only [ai.fr,he.kF h]
theorem ij.put{L s}(h:ij L s){d v}(hv:∀ k o,v=bk.ptr k o->(bl k L).isSome=true):ij L (s.put d v):=by
 cases d with
 | none=>exact h
 | some t =>
  unfold ai.put;simp only;cases Nat.blt t s.n with
  | false=>exact h
  | true =>
   intro p hp k o e;rcases List.mem_cons.1 hp with rfl|hp
   .exact hv k o e
   .exact h p hp k o e
theorem ij.ev{L s}(h:ij L s){x k o}(e:s.ev x=.ptr k o):(bl k L).isSome=true:=by
 cases x with
 | tmp t =>
  unfold ai.ev at e;have key:∀ l:List (Nat × bk),vm t l=.ptr k o->∃ p∈l,p.2=.ptr k o:=by
   intro l
   induction l with
   | nil=>intro h;cases h
   | cons p r ih =>
    intro h;unfold vm at h;split at h
    .exact ⟨p,by simp,h⟩
    .obtain ⟨q,hq,F3⟩:=ih h;exact ⟨q,List.mem_cons_of_mem _ hq,F3⟩
  obtain ⟨p,hp,hp'⟩:=key _ e;exact h p hp k o hp'
 | const v=>cases e
 | global g=>cases e
 | func f=>cases e
def eZ(G:List Own)(W w:World)(L:List aM)(R:List Own)(Φ:θ):Prop:=Ctx W w (R++(L.map aM.own++G)) Φ
def tZ:Option Prop->Prop
 | some p=>p
 | none=>False
def dG.fit:dG->Value->Bool
 | .int k,.int k' _=>decide (k'=k)
 | .bool,.bool _=>true
 | .str,.string _=>true
 | .ptr,.pointer _=>true
 | .slice,.slice _ _ _=>true
 | .map,.map _=>true
 | .fn,.func (.func _) _ _=>true
 | .any,_=>true
 | .Bt,.pointer (some ⟨_,_,none⟩)=>true
 | _,_=>false
def C4:List dG->List Value->Bool
 | [],[]=>true
 | s :: r,v :: vs=>match s.fit v with|true=>C4 r vs|false=>false
 | _,_=>false
theorem dG.a4N{s:dG}{v K}(h:s.fit v=true)(hk:K v):s.ex K:=by
 cases s
 case Bt =>
  cases v
  case pointer p =>
   rcases p with _|⟨b,o,s⟩
   .simp only [dG.fit] at h;cases h
   .cases s with
    | none=>exact ⟨_,_,hk⟩
    | some s=>simp only [dG.fit] at h;cases h
  all_goals simp only [dG.fit] at h;cases h
 all_goals cases v<;>simp only [dG.fit] at h<;>first
  | (cases h;done)
  | exact ⟨_,hk⟩
  | exact ⟨_,_,_,hk⟩
  | (have:=aN h;subst this;exact ⟨_,hk⟩)
  | (rename_i f _ _;cases f<;>simp only [dG.fit] at h<;>first|(cases h;done)|exact ⟨_,_,_,hk⟩)
theorem a4M:∀ {l:List dG} {vs:List Value} {K:List Value->Prop},C4 l vs=true->K vs->HE l K
 | [],[],_,_,hk=>hk
 | s :: r,v :: vs,_,h,hk=>by
  unfold C4 at h;split at h
  .rename_i hs;exact dG.a4N hs (a4M h hk)
  .cases h
 | [],_ :: _,_,h,_=>by cases h
 | _ :: _,[],_,h,_=>by cases h
def loadT(P:Program)(t:TypeId)(L:List aM)(k off:Nat)(K:Value->Prop):Prop :=
 match bl k L,P.underlying t,P.info? t with
 | some T,some d,some i =>
  match we d,i.zero.map lO.of with
  | true,some (.agg l)=>match Nat.beq l.length i.size&&C4 l ((T.cs.drop off).take i.size) with
   | true=>K (.agg ((T.cs.drop off).take i.size).toArray)
   | false=>False
  | false,some (.one s)=>match T.cs[off]? with
   | some v=>match s with
    | .fn=>∃ (f:FuncId) (a c:Array Value),v=.func (.func f) a c/\K (.func (.func f) a c)
    | s=>match s.fit v with
     | true=>K v
     | false=>False
   | none=>False
  | _,_=>False
 | _,_,_=>False
def Pt(P:Program)(t:TypeId)(k off f:Nat)(K:bk->Prop):Prop :=
 match P.underlying t with
 | some (.struct fs) =>
  match fs[f]? with
  | some fd =>
   match P.info? fd.type with
   | some i=>match Nat.beq i.size 0 with
    | false=>K (.ptr k (off+fd.offset))
    | true=>False
   | none=>False
  | none=>False
 | _=>False
def WB(P:Program)(t:TypeId)(k off:Nat)(i:Value)(K:bk->Prop):Prop :=
 match i,P.underlying t with
 | .int _ n,some (.array len e)=>match P.info? e with
  | some jX=>(0<=n/\n<len)/\K (.ptr k (idx off n.toNat jX.size))
  | none=>False
 | _,_=>False
def isLen(o:Oper):Bool:=match o.op with | .call c=>(match c.callee with | .builtin .len=>true|_=>false)|_=>false
def Pm(P:Program)(wr:Bool)(ex:Nat->Option TypeId)(o:Oper)(χ:Operand->Value)(w:World)(K:Value->World->Prop):Prop :=
 match wr with
 | true=>Pk P ex o χ w K
 | false=>HB P ex o χ w K
section
variable (P:Program)(W:World)
def cj(wr:Bool)(o:Oper)(s:ai)(L:List aM)(R:List Own)(Φ:θ)(K:bk->Prop):Option Prop :=
 match o.op with
 | .move x=>some (K (s.ev x))
 | .assign x=>some (K (s.ev x))
 | .nilCheck x=>match s.ev x with
  | .ptr k off=>some (K (.ptr k off))
  | .v _=>o6 P wr o (s.val L) W none λv=>K (.v v)
 | .fieldAddr t x f=>match s.ev x with
  | .ptr k off=>some (Pt P t k off f K)
  | .v _=>o6 P wr o (s.val L) W none λv=>K (.v v)
 | .indexAddr t x i=>match s.ev x with
  | .ptr k off=>some (WB P t k off (s.val L i) K)
  | .v _=>o6 P wr o (s.val L) W none λv=>K (.v v)
 | .load t x=>match s.ev x with
  | .ptr k off=>some (loadT P t L k off λv=>K (.v v))
  | .v _=>some (∀ w F,Ctx W w (R++F) Φ->tZ (o6 P wr o (s.val L) w none λv=>K (.v v)))
 | .lookup .. => some (∀ w F,Ctx W w (R++F) Φ->tZ (o6 P wr o (s.val L) w none λv=>K (.v v)))
 | _=>match mF P o (s.val L) λv=>K (.v v) with
  | false=>o6 P wr o (s.val L) W none λv=>K (.v v)
  | true=>match isLen o with
   | true=>some (∀ w F,Ctx W w (R++F) Φ->tZ (o6 P wr o (s.val L) w none λv=>K (.v v)))
   | false=>none
def storeT(wr:Bool)(t:TypeId)(L:List aM)(k off:Nat)(v:Value)(K:List aM->Prop):Prop :=
 match bl k L,P.info? t with
 | some T,some i =>
  match wr with
  | true=>match P.underlying t with
   | some d=>match we d with
    | true=>match v with
     | .agg cs=>match Nat.beq cs.toList.length i.size&&Nat.ble (off+i.size) T.cs.length with
      | true=>On cs.toList/\K (oY k (gd T.cs off cs.toList) L)
      | false=>False
     | _=>False
    | false=>match Nat.beq i.size 1&&Nat.blt off T.cs.length with
     | true=>On [v]/\K (oY k (T.cs.set off v) L)
     | false=>False
   | none=>False
  | false=>match v with
   | .agg cs=>match Nat.beq cs.toList.length i.size&&cs.toList.all ga&&Nat.ble (off+i.size) T.cs.length with
    | true=>K (oY k (gd T.cs off cs.toList) L)
    | false=>False
   | v=>match Nat.beq i.size 1&&ga v&&Nat.blt off T.cs.length with
    | true=>K (oY k (T.cs.set off v) L)
    | false=>False
 | _,_=>False
def R9(iN:Bool)(d:Option Tmp)(cs:List Value)(t:TypeId)(L:List aM)(R:List Own)(Φ:θ)(K:bk->List aM->List Own->θ->Prop):Prop :=
 match iN,d with
 | true,some d=>match bl d L with
  | none=>∀ b:Nat,K (.ptr d 0) (⟨d,b,0,cs,t⟩ :: L) R Φ
  | some _=>False
 | _,_=>∀ b:Nat,K (.v (.pointer (some ⟨b,0,none⟩))) L (.blk b cs t :: R) Φ
def aAI(t:TypeId)(n:Nat)(parts:List (Nat × Value)):Option (List Value × TypeId) :=
 match P.underlying t with
 | some (.slice e) =>
  match P.info? e,zeroOf P e with
  | some i,some z =>
   match Nat.ble (n*i.size) 16777216&&Nat.beq i.size z.cells.toList.length with
   | true =>
    match wm (λj=>some (j*i.size,i.size)) (u0 n z.cells.toList) parts with
    | some cells=>some (cells,e)
    | none=>none
   | false=>none
  | _,_=>none
 | _=>none
def a6q(t:TypeId)(l c:Value)(K:Nat->Nat->List Value->TypeId->Prop):Prop :=
 match P.underlying t,l,c with
 | some (.slice e),.int .i64 l,.int .i64 c =>
  match P.info? e,zeroOf P e with
  | some i,some z =>
   (0<=l/\l<=c/\i.bytes*c<=281474976710656/\c<=9223372036854775807) /\
    (match Nat.beq i.size 1&&ga z with
     | true=>K l.toNat c.toNat (List.replicate c.toNat z) e
     | false=>match Nat.beq i.size z.cells.toList.length && !(Nat.beq i.size 0) with
      | true=>K l.toNat c.toNat (u0 c.toNat z.cells.toList) e
      | false=>False)
  | _,_=>False
 | _,_,_=>False
def Cn(wr iN:Bool)(ex:Nat->Option TypeId)(o:Oper)(s:ai)(L:List aM)(R:List Own)(Φ:θ)(K:bk->List aM->List Own->θ->Prop):Prop :=
 match o.op with
 | .pick c x U=>match s.val L c with
  | .bool b=>γ b (K (s.ev x) L R Φ) (K (s.ev U) L R Φ)
  | _=>False
 | _=>match FV (s.fr L) o&&yq o with
  | true=>match cj P W wr o s L R Φ λv=>K v L R Φ with
   | some p=>p
   | none=>match o.op with
    | .store t x U=>match s.ev x with
     | .ptr k off=>storeT P wr t L k off (s.val L U) λL=>K (.v undef) L R Φ
     | .v _=>∀ w F,Ctx W w (R++F) Φ->Pm P wr ex o (s.val L) w λv w'=>∃ R' η,O η/\Ctx W w' (R'++F) η/\K (.v v) L R' η
    | .box t x=>R9 iN o.dst (s.val L x).cells.toList t L R Φ K
    | .alloc t=>match zeroOf P t with
     | some z=>R9 iN o.dst z.cells.toList t L R Φ K
     | none=>False
    | .buildSlice t n parts=>match aAI P t n (parts.toList.map λp=>(p.1,s.val L p.2)) with
     | some (cells,e)=>∀ b:Nat,K (.v (.slice (some ⟨b,0,none⟩) n n)) L (.blk b cells e :: R) Φ
     | none=>False
    | .makeSlice t l c=>a6q P t (s.val L l) (s.val L c) λl c cells e=>∀ b:Nat,K (.v (.slice (some ⟨b,0,none⟩) l c)) L (.blk b cells e :: R) Φ
    | .makeMap _ none=>∀ b:Nat,K (.v (.map (some b))) L (.obj b (.map #[] 0) :: R) Φ
    | .build t parts=>JE P t (parts.toList.map λp=>(p.1,s.val L p.2)) λv=>K (.v v) L R Φ
    | _=>∀ w F,Ctx W w (R++F) Φ->Pm P wr ex o (s.val L) w λv w'=>∃ R' η,O η/\Ctx W w' (R'++F) η/\K (.v v) L R' η
  | false=>False
end
end Go.Vc
end

section
namespace Go.Vc
variable {G:List Own}
variable {ds:List Deferred}
open Go.RowKit
theorem Ctx.perm{W w S S'}{Φ:θ}[O Φ](c:Ctx W w S Φ)(h:S.Perm S'):Ctx W w S' Φ:=by
 have hd:(dom S).Perm (dom S'):=h.flatMap_right _;exact c.go ⟨bZ.refl _ _,λb hb=>.inl (hd.mem_iff.2 hb)⟩ (λo ho=>c.own o (h.mem_iff.2 ho)) (hd.nodup_iff.1 c.nodup)
section
variable {P:Program}{W w:World}{L:List aM}{R:List Own}{Φ:θ}
theorem eZ.blk(c:eZ G W w L R Φ){k T}(h:bl k L=some T):dc w T.b T.cs T.t :=
 c.own T.own (List.mem_append.2 (.inr (List.mem_append.2 (.inl (List.mem_map.2 ⟨T,(a4J h).2,rfl⟩)))))
theorem eZ.new[O Φ](c:eZ G W w L R Φ){cs t}(d):eZ G W (w.alloc (.cells cs t)) (⟨d,w.heap.size,0,cs.toList,t⟩ :: L) R Φ:=by
 have:=Ctx.new c (w':=w.alloc (.cells cs t)) rfl;exact this.perm (by simpa [aM.own] using List.perm_middle.symm)
theorem eZ.newR[O Φ](c:eZ G W w L R Φ){cs t}:eZ G W (w.alloc (.cells cs t)) L (.blk w.heap.size cs.toList t :: R) Φ:=Ctx.new c rfl
theorem a6s{k cs T}:∀ {L:List aM},bl k L=some T->∃ i,(L.map aM.own)[i]? = some T.own/\(oY k cs L).map aM.own=(L.map aM.own).set i (.blk T.b cs T.t)
 | [],h=>by cases h
 | jh :: r,h=>by
  unfold bl at h;unfold oY;cases hb:Nat.beq jh.id k with
  | true =>
   rw [hb] at h;cases h;exact ⟨0,rfl,rfl⟩
  | false =>
   rw [hb] at h;obtain ⟨i,h1,h2⟩:=a6s (cs:=cs) h;exact ⟨i+1,by simpa using h1,by simp [h2]⟩
theorem eZ.sI[O Φ](c:eZ G W w L R Φ){k T cs w'}(h:bl k L=some T)(hc:bZ [T.b] w w')(hb:dc w' T.b cs T.t):eZ G W w' (oY k cs L) R Φ:=by
 obtain ⟨i,h1,h2⟩:=a6s (cs:=cs) h;unfold eZ at c ⊢;have hi:i<(L.map aM.own).length:=(List.getElem?_eq_some_iff.1 h1).1;rw [h2,show R++((L.map aM.own).set i (.blk T.b cs T.t)++G)=(R++(L.map aM.own++G)).set (R.length+i) (.blk T.b cs T.t) by
  rw [List.set_append_right _ _ (by omega),List.set_append_left _ _ (by omega)];congr 3;omega]
 refine Ctx.sI c (o:=T.own) (by rw [List.getElem?_append_right (by omega)];rw [show R.length+i - R.length=i by omega,List.getElem?_append_left hi];exact h1) hc (by simp [Own.dom,aM.own]) (by simp [Own.dom]) hb
theorem Y7{wr o χ K p}(W w:World)(h:o6 P wr o χ W none K=some p)(hf:mF P o χ K=false)(hp:p):
  ∃ v,(∀ w',(execOp χ o).run P w'=.ok (.value v) w')/\K v :=
 let ⟨v,h1,h2⟩:=a9B h hp
 ⟨v,λw'=>h1 trivial w' λe=>(by rw [hf] at e;cases e),h2⟩
theorem XZ{wr o χ K}(h:tZ (o6 P wr o χ w none K)):∃ v,(∀ w',w'.heap=w.heap->(execOp χ o).run P w'=.ok (.value v) w')/\K v:=by
 unfold tZ at h;split at h
 .rename_i p hp;obtain ⟨v,h1,h2⟩:=a9A hp h;exact ⟨v,h1 trivial,h2⟩
 .exact h.elim
theorem Wq{t k off K T}(hT:bl k L=some T)(hb:dc w T.b T.cs T.t)(h:loadT P t L k off K):
  ∃ v,(∀ w',w'.heap=w.heap->(loadVar t ⟨T.b,off,none⟩).run P w'=.ok v w')/\K v:=by
 unfold loadT at h;rw [hT] at h;split at h
 .rename_i e7 d i e hd hi;cases e;have key:JF P t w none T.b off K:=by
   unfold JF;rw [hd,hi];simp only;split at h
   .rename_i l ha hz;split at h
    .rename_i hc;simp only [Bool.and_eq_true] at hc;simp only [ha,hz,hc.1];refine a4M hc.2 ⟨hb.row λj hj=>?_,h⟩;simp only [List.length_take,List.length_drop] at hj;rw [List.getElem_take,List.getElem_drop,List.getElem?_eq_getElem]
    .exact h.elim
   .rename_i sc ha hz;split at h
    .rename_i v hv;split at h
     .obtain ⟨f,a,c,rfl,h⟩:=h;simp only [ha,hz];exact ⟨f,a,c,hb.EV hv,h⟩
     .split at h
      .rename_i hf;simp only [ha,hz];exact dG.a4N hf ⟨hb.EV hv,h⟩
      .exact h.elim
    .exact h.elim
   .exact h.elim
  obtain ⟨v,h1,h2⟩:=Zj key;exact ⟨v,h1 trivial,h2⟩
 .exact h.elim
theorem Pu{t k off f K T}(hT:bl k L=some T)(h:Pt P t k off f K):
  ∃ off',(∀ w,(Instr.fieldAt t (.pointer (some ⟨T.b,off,none⟩)) f).run P w=.ok (.pointer (some ⟨T.b,off',none⟩)) w)/\K (.ptr k off'):=by
 unfold Pt at h;split at h
 .rename_i fs ht;split at h
  .rename_i fd hf;split at h
   .rename_i i hi;split at h
    .rename_i hz;have hz:¬ i.size=0:=Nat.ne_of_beq_eq_false hz;refine ⟨_,λw=>?_,h⟩;simp [Instr.fieldAt,run_underlying ht,Result.andThen,hf,Instr.sureAddr,fieldPlace,run_sizeOf hi,hz,addr_add]
    .exact h.elim
   .exact h.elim
  .exact h.elim
 .exact h.elim
theorem WC{t k off i K T}(hT:bl k L=some T)(h:WB P t k off i K):
  ∃ off',(∀ w,(Instr.indexAt t (.pointer (some ⟨T.b,off,none⟩)) i).run P w=.ok (.pointer (some ⟨T.b,off',none⟩)) w)/\K (.ptr k off'):=by
 unfold WB at h;split at h
 .rename_i kk n len e ht;split at h
  .rename_i jX hi;obtain ⟨⟨h3,h4⟩,h⟩:=h;refine ⟨_,λw=>?_,h⟩;simp [Instr.indexAt,asIntOf,run_underlying ht,Result.andThen,h3,h4,run_sizeOf hi,addr_add,Instr.sureAddr,idx_eq]
  .exact h.elim
 .exact h.elim
theorem lF{L k off T}(h:bl k L=some T):(bk.ptr k off).val L=.pointer (some ⟨T.b,off,none⟩):=by simp [bk.val,h]
theorem a9F{wr o s K p}(hwf:ij L s)(c:eZ G W w L R Φ)(h:cj P W wr o s L R Φ K=some p)(hp:p):
  ∃ sv,(∀ k o,sv=bk.ptr k o->(bl k L).isSome=true)/\(∀ w',w'.heap=w.heap->(execOp (s.val L) o).run P w'=.ok (.value (sv.val L)) w')/\K sv:=by
 have rA:∀ {p:Prop},mF P o (s.val L) (λv=>K (.v v))=false->o6 P wr o (s.val L) W none (λv=>K (.v v))=some p->p ->
   ∃ sv,(∀ k o,sv=bk.ptr k o->(bl k L).isSome=true)/\(∀ w',w'.heap=w.heap->(execOp (s.val L) o).run P w'=.ok (.value (sv.val L)) w')/\K sv:=by
  intro p hf hq hp;obtain ⟨v,h1,h2⟩:=Y7 W w hq hf hp;exact ⟨.v v,λk o e=>(by cases e),λw' _=>h1 w',h2⟩
 have Zp:tZ (o6 P wr o (s.val L) w none (λv=>K (.v v))) ->
   ∃ sv,(∀ k o,sv=bk.ptr k o->(bl k L).isSome=true)/\(∀ w',w'.heap=w.heap->(execOp (s.val L) o).run P w'=.ok (.value (sv.val L)) w')/\K sv:=by
  intro hq;obtain ⟨v,h1,h2⟩:=XZ hq;exact ⟨.v v,λk o e=>(by cases e),h1,h2⟩
 unfold cj at h;split at h
 .rename_i x hop;cases h;exact ⟨s.ev x,λk o e=>hwf.ev e,λw' _=>by simp [execOp,hop,ai.val],hp⟩
 .rename_i x hop;cases h;exact ⟨s.ev x,λk o e=>hwf.ev e,λw' _=>by simp [execOp,hop,ai.val],hp⟩
 .rename_i x hop;split at h
  .rename_i k off hx;cases h;obtain ⟨T,hT⟩:=Option.isSome_iff_exists.1 (hwf.ev hx);refine ⟨.ptr k off,λk' o' e=>by cases e;rw [hT];rfl,λw' _=>?_,hp⟩;have hv:s.val L x=.pointer (some ⟨T.b,off,none⟩):=by rw [ai.val,hx,lF hT]
   simp [execOp,hop,hv,lF hT]
  .exact rA (by simp [mF,hop]) h hp
 .rename_i t x f hop;split at h
  .rename_i k off hx;cases h;obtain ⟨T,hT⟩:=Option.isSome_iff_exists.1 (hwf.ev hx);obtain ⟨off',h1,h2⟩:=Pu hT hp;refine ⟨.ptr k off',λk' o' e=>by cases e;rw [hT];rfl,λw' _=>?_,h2⟩;have hv:s.val L x=.pointer (some ⟨T.b,off,none⟩):=by rw [ai.val,hx,lF hT]
   simp [execOp,hop,hv,lF hT,h1 w',Result.andThen]
  .exact rA (by simp [mF,hop]) h hp
 .rename_i t x i hop;split at h
  .rename_i k off hx;cases h;obtain ⟨T,hT⟩:=Option.isSome_iff_exists.1 (hwf.ev hx);obtain ⟨off',h1,h2⟩:=WC hT hp;refine ⟨.ptr k off',λk' o' e=>by cases e;rw [hT];rfl,λw' _=>?_,h2⟩;have hv:s.val L x=.pointer (some ⟨T.b,off,none⟩):=by rw [ai.val,hx,lF hT]
   simp [execOp,hop,hv,lF hT,h1 w',Result.andThen]
  .exact rA (by simp [mF,hop]) h hp
 .rename_i t x hop;split at h
  .rename_i k off hx;cases h;obtain ⟨T,hT⟩:=Option.isSome_iff_exists.1 (hwf.ev hx);obtain ⟨v,h1,h2⟩:=Wq hT (c.blk hT) hp;refine ⟨.v v,λk o e=>(by cases e),λw' hw=>?_,h2⟩;have hv:s.val L x=.pointer (some ⟨T.b,off,none⟩):=by rw [ai.val,hx,lF hT]
   simp [execOp,hop,hv,Instr.loadAt,Instr.sureAddr,h1 w' hw,Result.andThen,bk.val]
  .cases h;exact Zp (hp w _ c)
 .cases h;exact Zp (hp w _ c)
 .split at h
  .rename_i hf;exact rA hf h hp
  .split at h
   .cases h;exact Zp (hp w _ c)
   .cases h
theorem a4g{K K'}(hK:∀ v w,K v w->K' v w):∀ {r},tC P K r->tC P K' r:=by
 intro r hr;cases r with
 | ok n w' =>
  cases n<;>simp only [tC] at hr ⊢ <;> try exact hr
  .exact hK _ _ hr
  .exact hK _ _ hr
  .exact hr.mono λe w'' ⟨v,he,hk⟩=>⟨v,he,hK _ _ hk⟩
 | halt x w'=>exact hr
theorem aHE{t i b off cs ty vs}(hi:P.info? t=some i)(hb:dc w b cs ty)(hn:vs.length=i.size)(h1:∀ v∈vs,ga v=true)(hl:off+i.size<=cs.length):
  (storeVar t ⟨b,off,none⟩ (.agg vs.toArray)).run P w=.ok () (w.setCells b off vs):=by
 have hcan:=hb.can (o:=off) (n:=vs.length) (by omega);have hr:=Rm (P:=P) (b:=b) (o:=off) vs 0 w h1 (λj hj=>by rw [Nat.zero_add];exact hcan j hj);unfold storeVar;simp only [Value.cells,Sem.run_bind,run_sizeOf hi,Result.andThen,List.size_toArray,hn,ne_eq,not_true_eq_false,if_false];simpa using hr
theorem aQQ[O Φ]{wr t k off v K T}(hT:bl k L=some T)(c:eZ G W w L R Φ)(h:storeT P wr t L k off v K):
  ∃ w' L',(storeVar t ⟨T.b,off,none⟩ v).run P w=.ok () w'/\K L'/\Ext L L'/\eZ G W w' L' R Φ:=by
 have hb:=c.blk hT;unfold storeT at h;rw [hT] at h;split at h
 case h_2=>exact h.elim
 rename_i e7 i e hi;cases e;have agg:∀ {cs:Array Value},cs.toList.length=i.size->(∀ v∈cs.toList,ga v=true)->off+i.size<=T.cs.length->K (oY k (gd T.cs off cs.toList) L) ->
   ∃ w' L',(storeVar t ⟨T.b,off,none⟩ (.agg cs)).run P w=.ok () w'/\K L'/\Ext L L'/\eZ G W w' L' R Φ:=by
  intro cs h1 h2 h3 h4;have hr:=aHE (P:=P) hi hb h1 h2 h3;rw [Array.toArray_toList] at hr;exact ⟨_,_,hr,h4,Ext.oY hT,c.sI hT ((bZ.refl _ _).setCells (by simp) _ _) (hb.sets _ _)⟩
 have one:∀ {v:Value},i.size=1->ga v=true->off<T.cs.length->K (oY k (T.cs.set off v) L) ->
   ∃ w' L',(storeVar t ⟨T.b,off,none⟩ v).run P w=.ok () w'/\K L'/\Ext L L'/\eZ G W w' L' R Φ:=by
  intro v h1 h2 h3 h4;obtain ⟨g1,g2⟩:=hb.can (o:=off) (n:=1) (by omega) 0 (by omega);exact ⟨_,_,YZ hi h1 h2 g1 g2,h4,Ext.oY hT,c.sI hT ((bZ.refl _ _).setCell (by simp) _) (hb.set _ _)⟩
 split at h
 .split at h
  .split at h
   .split at h
    .split at h
     .rename_i hc;simp only [Bool.and_eq_true] at hc;exact agg (Nat.eq_of_beq_eq_true hc.1) h.1 (Nat.le_of_ble_eq_true hc.2) h.2
     .exact h.elim
    .exact h.elim
   .split at h
    .rename_i hc;simp only [Bool.and_eq_true] at hc;exact one (Nat.eq_of_beq_eq_true hc.1) (h.1 _ (by simp)) (by have h2:=hc.2;rwa [Nat.blt_eq] at h2) h.2
    .exact h.elim
  .exact h.elim
 .split at h
  .split at h
   .rename_i hc;simp only [Bool.and_eq_true] at hc;exact agg (Nat.eq_of_beq_eq_true hc.1.1) (λv hv=>List.all_eq_true.1 hc.1.2 v hv) (Nat.le_of_ble_eq_true hc.2) h
   .exact h.elim
  .split at h
   .rename_i hc;simp only [Bool.and_eq_true] at hc;exact one (Nat.eq_of_beq_eq_true hc.1.1) hc.1.2 (by have h2:=hc.2;rwa [Nat.blt_eq] at h2) h
   .exact h.elim
theorem IU[O Φ]{wr iN ex o s a K K'}(h:Cn P W wr iN ex o s L R Φ K)(hs:ku ds (s.fr L) a)(hwf:ij L s)(c:eZ G W w L R Φ)(hK:∀ sv L' R' η v' w',K sv L' R' η->O η->Ext L L'->(∀ k o,sv=bk.ptr k o->(bl k L').isSome=true)->eZ G W w' L' R' η->(fG (sv.val L')=false->v'=sv.val L')->K' v' w'):
  tC P K' ((execOp a.eval o).run P w):=by
 unfold Cn at h;split at h
 .rename_i cc x U hop;split at h
  .rename_i b hc;have hev:=ya s L;have ji:a.eval cc=.bool b:=by rw [hs.eval (by rw [hev,hc];rfl),hev,hc]
   cases b with
   | true =>
    simp only [γ] at h;simp only [execOp,hop,ji,asBool,Sem.run_bind,Sem.run_pure,Result.andThen,if_true,tC];exact hK _ _ _ _ _ _ h δ (Ext.refl _) (λk o e=>hwf.ev e) c λhu=>by rw [hs.eval (by rw [hev];exact hu),hev];rfl
   | false =>
    simp only [γ] at h;simp only [execOp,hop,ji,asBool,Sem.run_bind,Sem.run_pure,Result.andThen,tC,Bool.false_eq_true,if_false];exact hK _ _ _ _ _ _ h δ (Ext.refl _) (λk o e=>hwf.ev e) c λhu=>by rw [hs.eval (by rw [hev];exact hu),hev];rfl
  .exact h.elim
 .split at h
  case h_2=>exact h.elim
  rename_i ho;simp only [Bool.and_eq_true] at ho;rw [LB hs ho.1 ho.2,show (s.fr L).eval=s.val L from funext (ya s L)];split at h
  .rename_i p hp;obtain ⟨sv,h1,h2,h3⟩:=a9F hwf c hp h;rw [h2 w rfl];exact hK _ _ _ _ _ _ h3 δ (Ext.refl _) h1 c λ_=>rfl
  .have gen:(∀ w F,Ctx W w (R++F) Φ->Pm P wr ex o (s.val L) w λv w'=>∃ R' η,O η/\Ctx W w' (R'++F) η/\K (.v v) L R' η)->tC P K' ((execOp (s.val L) o).run P w):=by
    intro h;have h:=h w _ c;have mono:∀ v w',(∃ R' η,O η/\Ctx W w' (R'++(L.map aM.own++G)) η/\K (.v v) L R' η)->K' v w':=by
     rintro v w' ⟨R',η,h1,h2,h3⟩;exact hK _ _ _ _ _ _ h3 h1 (Ext.refl _) (λk o e=>by cases e) h2 λ_=>rfl
    unfold Pm at h;cases wr with
    | true=>exact a4g mono (aHu h)
    | false=>exact a4g mono (UZ h)
   have new:∀ {cs:Array Value} {t:TypeId},R9 iN o.dst cs.toList t L R Φ K->K' (.pointer (some ⟨w.heap.size,0,none⟩)) (w.alloc (.cells cs t)):=by
    intro cs t h;unfold R9 at h;split at h
    .rename_i d hd _;split at h
     .rename_i hn;refine hK _ _ _ _ _ _ (h w.heap.size) δ (Ext.new (T:=⟨d,w.heap.size,0,cs.toList,t⟩) hn) (λk o e=>?_) (c.new d) λ_=>?_
      .cases e;simp [bl]
      .simp [bk.val,bl]
     .exact h.elim
    .exact hK _ _ _ _ _ _ (h w.heap.size) δ (Ext.refl _) (λk o e=>by cases e) c.newR λ_=>rfl
   split at h
   .rename_i t x U hop;split at h
    .rename_i k off hx;obtain ⟨T,hT⟩:=Option.isSome_iff_exists.1 (hwf.ev hx);obtain ⟨w',L',h1,h2,h3,h4⟩:=aQQ hT c h;have hv:s.val L x=.pointer (some ⟨T.b,off,none⟩):=by rw [ai.val,hx,lF hT]
     simp only [execOp,hop,hv,Instr.storeAt,Instr.sureAddr,Sem.run_bind,Sem.run_pure,Result.andThen,h1];exact hK _ _ _ _ _ _ h2 δ h3 (λk o e=>by cases e) h4 λ_=>rfl
    .exact gen h
   .rename_i t x hop;simp only [execOp,hop,Instr.box,newVar,newRow,newObj,Sem.run_bind,Sem.run,Sem.run_pure,Result.andThen];exact new h
   .rename_i t hop;split at h
    .rename_i z hz;simp only [execOp,hop,Instr.alloc,newVar,newRow,newObj,Sem.run_bind,Is hz,Sem.run,Sem.run_pure,Result.andThen];exact new h
    .exact h.elim
   .rename_i t n parts hop;split at h
    .rename_i cells e hsc;have key:Np P t n (parts.toList.map λp=>(p.1,s.val L p.2)) w λv w'=>v=.slice (some ⟨w.heap.size,0,none⟩) n n/\w'=w.alloc (.cells cells.toArray e):=by
      unfold aAI at hsc;unfold Np;split at hsc
      .rename_i e' ht;split at hsc
       .rename_i i z hi hz;split at hsc
        .rename_i hc;split at hsc
         .rename_i cells' hf;cases hsc;simp only [ht,hi,hz,hc,hf];exact λw' hw'=>⟨by simp,hw'⟩
         .cases hsc
        .cases hsc
       .cases hsc
      .cases hsc
     rw [show (parts.toList.map λp=>(p.1,s.val L p.2))=(parts.map λ(i,x)=>(i,s.val L x)).toList by simp] at key;obtain ⟨v,w',h1,rfl,rfl⟩:=aBJ key;simp only [execOp,hop,Sem.run_bind,h1,Sem.run_pure,Result.andThen];exact hK _ _ _ _ _ _ (h w.heap.size) δ (Ext.refl _) (λk o e=>by cases e) (by have:=c.newR (cs:=cells.toArray) (t:=e);simpa using this) λ_=>rfl
    .exact h.elim
   .rename_i t l cc hop;have key:Nq P t (s.val L l) (s.val L cc) w λv w'=>∃ n m cells e,v=.slice (some ⟨w.heap.size,0,none⟩) n m/\w'=w.alloc (.cells (List.toArray cells) e)/\∀ b:Nat,K (.v (.slice (some ⟨b,0,none⟩) n m)) L (.blk b cells e :: R) Φ:=by
     unfold a6q at h;unfold Nq;split at h
     .rename_i e l' c' ht e1 e2;rw [ht,e1,e2];simp only;split at h
      .rename_i i z hi hz;rw [hi,hz];obtain ⟨h1,h2⟩:=h;refine ⟨h1,?_⟩;split at h2
       .rename_i hc;simp only [Bool.and_eq_true,Nat.beq_eq] at hc;rw [if_pos hc];exact λw' hw'=>⟨_,_,_,_,rfl,hw',h2⟩
       .rename_i hn;split at h2
        .rename_i hc;simp only [Bool.and_eq_true,Nat.beq_eq,Bool.not_eq_true'] at hc;rw [if_neg (by rintro ⟨q1,bP⟩;simp [q1,bP] at hn),if_pos ⟨hc.1,Nat.ne_of_beq_eq_false hc.2⟩];exact λw' hw'=>⟨_,_,_,_,rfl,hw',h2⟩
        .exact h2.elim
      .exact h.elim
     .exact h.elim
    obtain ⟨v,w',h1,n,m,cells,e,rfl,rfl,h2⟩:=aBM key;simp only [execOp,hop,Sem.run_bind,h1,Sem.run_pure,Result.andThen];exact hK _ _ _ _ _ _ (h2 w.heap.size) δ (Ext.refl _) (λk o e=>by cases e) (by have:=c.newR (cs:=cells.toArray) (t:=e);simpa using this) λ_=>rfl
   .rename_i t hop;simp only [execOp,hop,Option.map_none,Instr.makeMap,newObj,Sem.run_bind,Sem.run,Sem.run_pure,Result.andThen];exact hK _ _ _ _ _ _ (h w.heap.size) δ (Ext.refl _) (λk o e=>by cases e) (Ctx.newObj c rfl) λ_=>rfl
   .rename_i t parts hop;rw [show (parts.toList.map λp=>(p.1,s.val L p.2))=(parts.map λ(i,x)=>(i,s.val L x)).toList by simp] at h;obtain ⟨v,h1,h2⟩:=aBL (w:=w) h;simp only [execOp,hop,Sem.run_bind,h1,Sem.run_pure,Result.andThen];exact hK _ _ _ _ _ _ h2 δ (Ext.refl _) (λk o e=>by cases e) c λ_=>rfl
   .exact gen h
end
end Go.Vc
end

