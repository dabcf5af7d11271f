
/- Texts that belong together,joined. No condition. -/
import Derived.Test.YtaaljnljnkdiaaaGreatJc
import Derived.Test.YtaaljnljnkdiaaaGreatJd
namespace Evl
open Go
mutual
def nlk:AV→Bool
 | .sl o _ n cs=>if o then nlkL cs else (n==0&&cs.isEmpty)
 | .agg cs=>nlkL cs
 | .tup cs=>nlkL cs
 | .fnv _ cs=>nlkL cs
 | .nbx _=>false
 | .cptr _=>false
 | _=>true
def nlkL:List AV→Bool
 | []=>true
 | x::xs=>nlk x&&nlkL xs
end
variable {P:Program}{H:Hints}{fid:FuncId}{N:Nat}{w0 w w':World}{M:Nat→Prop}{V0 V V':Nat→Nat}{K K':Nat→Nat×Nat}{O O':Nat→Option Loc}{s:S}{a:Act}{fp:List Nat}{v:Value}
theorem Rep.still{m:Bool}{us:List Value}{cs:List AV}(h:Rep V w K m fp us cs)(hs:nlkL cs=true)(ho:∀g∈fp,w'.heap[g]?=w.heap[g]?∧V' g=V g):Rep V' w' K m fp us cs:=by
 induction h with
 | nil=>exact .nil
 | lit hp _ ih=>exact .lit hp (ih (by simpa [nlkL,nlk] using hs) ho)
 | nl _ ih=>exact .nl (ih (by simpa [nlkL,nlk] using hs) ho)
 | ns _ ih=>exact .ns (ih (by simpa [nlkL,nlk] using hs) ho)
 | on _ ih=>exact .on (ih (by simpa [nlkL,nlk] using hs) ho)
 | sh a vs h1 h2 h3 hin _ ih1 ih2 =>
  simp only[nlkL,nlk,Bool.false_eq_true,if_false,Bool.and_eq_true,beq_iff_eq,List.isEmpty_iff] at hs
  obtain⟨⟨h0,rfl⟩,hs⟩:=hs
  have hv:vs=[]:=by have:=hin.len;simpa using this
  subst hv
  exact .sh a [] h1 (.inl ⟨h0,rfl⟩) (by simp) .nil (ih2 hs ho)
 | ow g T arr fz vs h1 h2 h3 h4 h5 h6 h7 h8 hin _ ih1 ih2 =>
  simp only[nlkL,nlk,if_true,Bool.and_eq_true] at hs
  have hg:=ho g (by simp)
  exact .ow g T arr fz vs h1 (hg.1.trans h2) h3 h4 h5 h6 h7 (hg.2.trans h8) (ih1 hs.1 fun x hx=>ho x (by simp[hx])) (ih2 hs.2 fun x hx=>ho x (by simp[hx]))
 | ms b h0 h1 _ ih=>exact .ms b h0 h1 (ih (by simpa [nlkL,nlk] using hs) ho)
 | mv b h0 _ ih=>exact .mv b h0 (ih (by simpa [nlkL,nlk] using hs) ho)
 | bd u hu _ ih=>exact .bd u hu (ih (by simpa [nlkL,nlk] using hs) ho)
theorem RepP.still{x:AV}(h:RepP V w K v x)(hs:nlk x=true):RepP V' w' K v x:=by
 cases h with
 | ptr b off=>exact .ptr b off
 | cptr a vs h1 h2 h3 h4 h5=>simp[nlk] at hs
 | bad v=>exact .bad v
theorem RepPs.still{us xs}(h:RepPs V w K us xs):nlkL xs=true→RepPs V' w' K us xs:=by
 induction h with
 | nil=>intro _;exact .nil
 | cons a _ ih =>
  intro hs
  simp only[nlkL,Bool.and_eq_true] at hs
  exact .cons (a.still hs.1) (ih hs.2)
theorem RepU.still{x:AV}(h:RepU V w K fp v x)(hs:nlk x=true)(ho:∀g∈fp,w'.heap[g]?=w.heap[g]?∧V' g=V g):RepU V' w' K fp v x:=by
 cases h with
 | one h=>exact .one (h.still (by simp[nlkL,hs]) ho)
 | agg h=>exact .agg (h.still (by simpa [nlk] using hs) ho)
 | p h=>exact .p (h.still hs)
 | fnv h=>exact .fnv (h.still (by simpa [nlk] using hs))
theorem RepT.still{us xs}(h:RepT V w K fp us xs):nlkL xs=true→(∀g∈fp,w'.heap[g]?=w.heap[g]?∧V' g=V g)→RepT V' w' K fp us xs:=by
 induction h with
 | nil=>intro _ _;exact .nil
 | cons a _ ih =>
  intro hs ho
  simp only[nlkL,Bool.and_eq_true] at hs
  exact .cons (a.still hs.1 fun g hg=>ho g (by simp[hg])) (ih hs.2 fun g hg=>ho g (by simp[hg]))
theorem RepV.still{x:AV}(h:RepV V w K fp v x)(hs:nlk x=true)(ho:∀g∈fp,w'.heap[g]?=w.heap[g]?∧V' g=V g):RepV V' w' K fp v x:=by
 cases h with
 | u h=>exact .u (h.still hs ho)
 | tup h=>exact .tup (h.still (by simpa [nlk] using hs) ho)
theorem Rep.fp_lt{m:Bool}{us:List Value}{cs:List AV}(h:Rep V w K m fp us cs):∀g∈fp,g<w.heap.size:=by
 induction h with
 | nil=>intro g hg;cases hg
 | ow g T arr fz vs h1 h2 h3 h4 h5 h6 h7 h8 hin _ ih1 ih2 =>
  intro x hx
  rcases List.mem_cons.1 hx with rfl | hx
  ·exact(Array.getElem?_eq_some_iff.1 h2).1
  ·rcases List.mem_append.1 hx with hx | hx
   ·exact ih1 x hx
   ·exact ih2 x hx
 | lit _ _ ih=>exact ih
 | nl _ ih=>exact ih
 | ns _ ih=>exact ih
 | on _ ih=>exact ih
 | sh _ _ _ _ _ _ _ _ ih=>exact ih
 | ms _ _ _ _ ih=>exact ih
 | mv _ _ _ ih=>exact ih
 | bd _ _ _ ih=>exact ih
def TurnOk(P:Program)(f:FuncId)(mk:Value→Array Value)(T:AV)(r:Value)(T':AV):Prop :=
 ∀(V:Nat→Nat) (w:World) (K:Nat→Nat×Nat) (fp:List Nat) (u:Value),Rep V w K false fp [u] [T]→fp.Nodup→(∀g,0<V g→g<w.heap.size) →
  Calls P f (mk u) w fun e w'=>e=.returned r∧∃(V':Nat→Nat) (fp':List Nat),Fr w (fun g=>g∈fp) w'∧Rep V' w' K false fp' [u] [T']∧fp'.Nodup∧(∀g∈fp',g∈fp∨w.heap.size≤g) ∧
   (∀g,0<V' g→g<w'.heap.size)∧∀g,g<w.heap.size→g∉fp→V' g=V g
def setBx(b:Nat)(y:Box)(s:S):S:={ s with b:=fun k=>if k=b then some y else s.b k }
def nlkS (s:S):Prop:=(∀t,nlk (s.t t)=true)∧∀b x,s.b b=some x→nlkL x.cs=true
theorem set_mid{α:Type}(l1:List α)(x y:α)(l2:List α):(l1++x::l2).set l1.length y=l1++y::l2:=by
 induction l1 with
 | nil=>rfl
 | cons a l ih=>simp[ih]
theorem lend(R:RelG N w0 M V0 K V O s a w)(hz:∀g,(w0.heap.size≤g∨M g)→V0 g=0)(hn:nlkS s){b j:Nat}{x:Box}{T T':AV}{f:FuncId}{mk:Value→Array Value}{r:Value}
  (hb:s.b b=some x) (hj:x.cs[j]?=some T) (hT:TurnOk P f mk T r T') (hnT:∀b n,T≠.msl b n) :
  ∃u,(∀fb arr Ty fz us,BoxOk V w K b x fb arr Ty fz us→us[j]?=some u→True)∧w.cell? ⟨(K b).1,j,none⟩=some u ∧
   Calls P f (mk u) w fun e w'=>e=.returned r∧∃V' O',RelG N w0 M V0 K V' O' (setBx b { x with cs:=x.cs.set j T' } s) a w':=by
 have hjl:=(List.getElem?_eq_some_iff.1 hj).1
 obtain⟨fb,arr,Ty,fz,us,q1,q2,q3⟩:=R.bxr b x hb (.inr (.inl fun e=>by rw[e] at hjl;simp at hjl))
 have hsplit:x.cs=x.cs.take j++T::x.cs.drop (j+1):=by
  conv=>lhs;rw[←List.take_append_drop j x.cs,List.drop_eq_getElem_cons hjl]
  rw[show x.cs[j]=T by have:=(List.getElem?_eq_some_iff.1 hj).2;exact this]
 have hset:x.cs.set j T'=x.cs.take j++T'::x.cs.drop (j+1):=by
  conv=>lhs;rw[hsplit]
  have hl:(x.cs.take j).length=j:=by rw[List.length_take];omega
  have:=set_mid (x.cs.take j) T T' (x.cs.drop (j+1))
  rw[hl] at this;exact this
 have hrep:=q3.rep
 rw[hsplit] at hrep
 obtain⟨f1,f2',u1,u2',hfb,hus,r1,r2⟩:=Rep.split _ hrep
 obtain⟨f2,f3,u2,u3,rfl,rfl,r2,r3⟩:=Rep.split [T] r2
 obtain⟨u,rfl⟩:∃u,u2=[u]:=by
  match u2,r2.len with
  | [u],_=>exact⟨u,rfl⟩
 have hl1:u1.length=j:=by rw[r1.len,List.length_take];omega
 subst hfb;subst hus
 have hnall:=hn.2 b x hb
 have n1:nlkL (x.cs.take j)=true∧nlkL (x.cs.drop (j+1))=true:=by
  have app:∀l1 l2:List AV,nlkL (l1++l2)=true→nlkL l1=true∧nlkL l2=true:=by
   intro l1
   induction l1 with
   | nil=>intro l2 h;exact⟨rfl,h⟩
   | cons y l ih =>
    intro l2 h
    simp only[List.cons_append,nlkL,Bool.and_eq_true] at h ⊢
    exact⟨⟨h.1,(ih l2 h.2).1⟩,(ih l2 h.2).2⟩
  rw[hsplit] at hnall
  have:=app _ _ hnall
  refine⟨this.1,?_⟩
  have:=this.2
  simp only[nlkL,Bool.and_eq_true] at this
  exact this.2
 have hcell:w.cell? ⟨(K b).1,j,none⟩=some u:=q3.cell (by rw[List.getElem?_append_right (by omega)];simp[hl1])
 have r2d:Rep V w K false f2 [u] [T]:=r2.down (fun c hc b n=>by rw[List.mem_singleton.1 hc];exact hnT b n)
 simp only[List.nodup_cons,List.mem_append,not_or,List.nodup_append] at q1
 obtain⟨⟨k1,k2,k3⟩,d1,⟨d2,d3,d23⟩,d123⟩:=q1
 refine⟨u,fun _ _ _ _ _ _ _=>trivial,hcell,Calls.mono (hT V w K f2 u r2d d2 R.vr) fun e w' ⟨he,V',fp',hfr,hrep',hnd,hin,hvr,hvo⟩=>⟨he,?_⟩⟩
 have hold:∀g,O g=some (false,b)∨g∉f2→True:=fun _ _=>trivial
 have keep:∀g,g<w.heap.size→g∉f2→w'.heap[g]?=w.heap[g]?∧V' g=V g:=fun g h1 h2=>⟨hfr.old g h1 h2,hvo g h1 h2⟩
 have hf2O:∀g∈f2,O g=some (false,b):=fun g hg=>q2 g (by simp[hg])
 have hf2lt:∀g∈f2,g<w.heap.size:=r2.fp_lt
 have hf2z:∀g∈f2,V0 g=0:=fun g hg=>hz g (R.rg g _ (hf2O g hg)).1
 have own_keep:∀g l,O g=some l→l≠(false,b)→w'.heap[g]?=w.heap[g]?∧V' g=V g:=fun g l hg hl=>keep g (R.rg g l hg).2 fun hin=>hl (by rw[hf2O g hin] at hg;cases hg;rfl)
 have hnew:∀g l,O g=some l→g∈fp'→g∈f2:=fun g l hg hp=>by
  rcases hin g hp with h | h
  ·exact h
  ·have:=(R.rg g l hg).2;omega
 refine⟨V',fun g=>if g∈fp' then some (false,b) else if g∈f2 then none else O g,R.df,R.n,fun t=>?_,fun c y hc=>?_,fun g l hg=>?_,hvr,?_,?_,?_⟩
 ·obtain⟨fp,p1,p2,p3⟩:=R.tm t
  refine⟨fp,p1,fun g hg=>?_,p3.still (hn.1 t) fun g hg=>own_keep g _ (p2 g hg) (by simp)⟩
  have h2:g∉f2:=fun h=>by have:=hf2O g h;rw[p2 g hg] at this;cases this
  show (if g∈fp' then some (false,b) else if g∈f2 then none else O g)=some (true,t)
  rw[if_neg (fun h=>h2 (hnew g _ (p2 g hg) h)),if_neg h2];exact p2 g hg
 ·by_cases hcb:c=b
  ·subst hcb
   simp only[setBx,if_true,Option.some.injEq] at hc
   subst hc
   have kb:=keep (K c).1 (R.rg _ _ (q2 _ List.mem_cons_self)).2 k2
   have e1:∀g∈f1,w'.heap[g]?=w.heap[g]?∧V' g=V g:=fun g hg=>keep g (r1.fp_lt g hg) fun h=>d123 g hg g (.inl h) rfl
   have e3:∀g∈f3,w'.heap[g]?=w.heap[g]?∧V' g=V g:=fun g hg=>keep g (r3.fp_lt g hg) fun h=>d23 g h g hg rfl
   have old_or:∀g∈fp',∀h,h<w.heap.size→h∉f2→g≠h:=fun g hg h hl hn e=>by
    subst e
    rcases hin g hg with q | q
    ·exact hn q
    ·omega
   refine .inr ⟨f1++(fp'++f3),arr,Ty,fz,u1++([u]++u3),?_,fun g hg=>?_,?_⟩
   ·simp only[List.nodup_cons,List.mem_append,not_or,List.nodup_append]
    refine⟨⟨k1,fun h=>old_or _ h _ (R.rg _ _ (q2 _ List.mem_cons_self)).2 k2 rfl,k3⟩,d1,⟨hnd,d3,fun x hx y hy=>old_or x hx y (r3.fp_lt y hy) fun h=>d23 y h y hy rfl⟩,fun x hx y hy e=>?_⟩
    subst e
    rcases hy with hy | hy
    ·exact old_or x hy x (r1.fp_lt x hx) (fun h=>d123 x hx x (.inl h) rfl) rfl
    ·exact d123 x hx x (.inr hy) rfl
   ·show (if g∈fp' then some (false,c) else if g∈f2 then none else O g)=some (false,c)
    by_cases h1:g∈fp'
    ·rw[if_pos h1]
    ·rw[if_neg h1]
     have hg2:g∉f2:=by
      simp only[List.mem_cons,List.mem_append] at hg
      rcases hg with rfl | hg | hg | hg
      ·exact k2
      ·exact fun h=>d123 g hg g (.inl h) rfl
      ·exact absurd hg h1
      ·exact fun h=>d23 g h g hg rfl
     rw[if_neg hg2]
     refine q2 g ?_
     simp only[List.mem_cons,List.mem_append] at hg ⊢
     rcases hg with hg | hg | hg | hg
     ·exact .inl hg
     ·exact .inr (.inl hg)
     ·exact absurd hg h1
     ·exact .inr (.inr (.inr hg))
   ·refine⟨kb.1.trans q3.hp,q3.th,q3.pre,?_,?_,q3.var,q3.row⟩
    ·show Rep V' w' K (x.sz==0) _ _ (x.cs.set j T')
     rw[hset]
     exact(r1.still n1.1 e1).app ((hrep'.up _ (fun e=>by cases e)).app (r3.still n1.2 e3))
    ·show V' (K c).1=if x.st=true then 0 else (x.cs.set j T').length
     rw[kb.2,List.length_set];exact q3.vis
  ·have hcs:s.b c=some y:=by simpa [setBx,hcb] using hc
   rcases R.bx c y hcs with h | ⟨gb,arr2,T2,fz2,us2,p1,p2,p3⟩
   ·exact .inl h
   ·have hkk:∀g∈(K c).1::gb,w'.heap[g]?=w.heap[g]?∧V' g=V g:=fun g hg=>own_keep g _ (p2 g hg) (by simp[hcb])
    refine .inr ⟨gb,arr2,T2,fz2,us2,p1,fun g hg=>?_,⟨(hkk _ List.mem_cons_self).1.trans p3.hp,p3.th,p3.pre,p3.rep.still (hn.2 c y hcs) fun g hg=>hkk g (by simp[hg]),by rw[(hkk _ List.mem_cons_self).2];exact p3.vis,p3.var,p3.row⟩⟩
    have h2:g∉f2:=fun h=>by have:=hf2O g h;rw[p2 g hg] at this;cases this;exact hcb rfl
    show (if g∈fp' then some (false,b) else if g∈f2 then none else O g)=some (false,c)
    rw[if_neg (fun h=>h2 (hnew g _ (p2 g hg) h)),if_neg h2];exact p2 g hg
 ·split at hg
  ·rename_i hp
   refine⟨?_,hrep'.fp_lt g hp⟩
   rcases hin g hp with h | h
   ·exact(R.rg g _ (hf2O g h)).1
   ·have:=R.fr.sz;exact .inl (by omega)
  ·split at hg
   ·cases hg
   ·exact⟨(R.rg g l hg).1,Nat.lt_of_lt_of_le (R.rg g l hg).2 hfr.sz⟩
 ·exact⟨hfr.os.trans R.fr.os,hfr.tape.trans R.fr.tape,hfr.output.trans R.fr.output,Nat.le_trans R.fr.sz hfr.sz,fun g hg hM=>by
   have h2:g∉f2:=fun h=>by
    rcases(R.rg g _ (hf2O g h)).1 with h' | h'
    ·omega
    ·exact hM h'
   rw[hfr.old g (Nat.lt_of_lt_of_le hg R.fr.sz) h2];exact R.fr.old g hg hM⟩
 ·refine⟨fun g off ho=>?_,fun g=>?_,Nat.le_trans R.nx.sz hfr.sz⟩
  ·rw[←R.nx.cell g off ho]
   have h2:g∉f2:=fun h=>by rw[hf2z g h] at ho;omega
   have hlt:g<w.heap.size:=R.vr g (by have:=R.nx.le g;omega)
   have:=hfr.old g hlt h2
   simp only[World.cell?,this]
  ·by_cases h0:V0 g=0
   ·omega
   ·have h2:g∉f2:=fun h=>h0 (hf2z g h)
    have hlt:g<w.heap.size:=R.vr g (by have:=R.nx.le g;omega)
    rw[hvo g hlt h2];exact R.nx.le g
 ·intro g hg hM
  have h2:g∉f2:=fun h=>by
   rcases(R.rg g _ (hf2O g h)).1 with h' | h'
   ·omega
   ·exact hM h'
  rw[hvo g (Nat.lt_of_lt_of_le hg R.fr.sz) h2];exact R.vo g hg hM
end Evl
namespace Evl
open Go
variable {P:Program}{H:Hints}{fid:FuncId}{N:Nat}{w0 w w':World}{M:Nat→Prop}{V0 V V':Nat→Nat}{K K':Nat→Nat×Nat}{O O':Nat→Option Loc}{s:S}{a:Act}{fp:List Nat}{v:Value}{G:GP}
variable {ops:Array Oper}{Q:Exit→Act→World→Prop}
theorem wpOps_val{i:Nat}{rest:List Nat}{o:Oper}(ho:ops[i]?=some o)(hg:o.guard=none)(hr:(execOp a.eval o).run P w=.ok (.value v) w')(h:wpOps P ops Q rest (a.put o.dst v) w'):wpOps P ops Q (i::rest) a w:=by
 rw[wpOps_cons]
 unfold wpOp
 rw[ho]
 have hw:Region.wanted o (yielded ops a.tmps)=true:=by unfold Region.wanted;rw[hg]
 simp only[hw,if_true]
 refine .inl ?_
 unfold Oper.wp
 rw[hr];exact h
theorem wpOps_call{i:Nat}{rest:List Nat}{o:Oper}{f:FuncId}{args:Array Value}(ho:ops[i]?=some o)(hg:o.guard=none)(hr:(execOp a.eval o).run P w=.ok (.enter f args) w)
  (h:Calls P f args w fun e w'=>∃v,e=.returned v∧wpOps P ops Q rest (a.put o.dst v) w'):wpOps P ops Q (i::rest) a w:=by
 rw[wpOps_cons]
 unfold wpOp
 rw[ho]
 have hw:Region.wanted o (yielded ops a.tmps)=true:=by unfold Region.wanted;rw[hg]
 simp only[hw,if_true]
 refine .inl ?_
 unfold Oper.wp
 rw[hr]
 simp only[Oper.upon]
 refine Calls.mono h fun e w' ⟨v,he,hq⟩=>?_
 subst he;exact hq
def botS:S:=⟨fun _=>.bad,fun _=>none⟩
theorem relBot(hd:a.defers=[]):RelG a.tmps.size w (fun _=>True) (fun _=>0) (fun _=>(0,0)) (fun _=>0) (fun _=>none) botS a w :=
 ⟨hd,rfl,fun _=>⟨[],List.nodup_nil,by simp,.bad _⟩,fun _ _ h=>(by cases h),fun _ _ h=>(by cases h),fun _ h=>absurd h (Nat.lt_irrefl 0),⟨rfl,rfl,rfl,Nat.le_refl _,fun _ _ h=>absurd trivial h⟩,Next.refl _ _,fun _ _ h=>absurd trivial h⟩
theorem call_run {o : Oper} {f : FuncId} {xs : List Operand} (hd : a.defers = []) (h : calleeOf o botS = some (f, xs, [])) {fn : Func} {c : Code} (hf : P.funcs[f]? = some fn) (hb : fn.body = some c) (hn : (fn.name == "runtime.NumGoroutine") = false) :
  (execOp a.eval o).run P w=.ok (.enter f (xs.map a.eval).toArray) w:=by
 obtain⟨cvs,h1,h2⟩:=calleeOf_run (relBot (w:=w) hd) h hf hb hn
 cases h1
 simpa using h2
theorem Fr.sub{M M':Nat→Prop}(h:Fr w0 M w)(hm:∀g,M g→M' g):Fr w0 M' w:=⟨h.os,h.tape,h.output,h.sz,fun g hg hn=>h.old g hg fun h'=>hn (hm g h')⟩
theorem lit_back{V1:Nat→Nat}{rv:Value}(h:RepQ V1 w fp v (.lit rv)):v=rv:=by
 cases h with
 | one _ _ _ hr =>
  cases hr with
  | v K _ _ _ hu hi =>
   cases hu with
   | one h=>cases h with
    | lit hp h=>rfl
   | p h=>cases h
theorem turn_row{f:FuncId}{n sz:Nat}{ds ds':List AV}{kv rv:Value}{bx bx':Nat→Option Box}
  (hG:∀M V0 w,(∀g,(w.heap.size≤g∨M g)→V0 g=0)→G M V0 w) (hbx:∀b x,bx b=some x→b=1000∧x=⟨true,sz,ds⟩) (hbx':bx' 1000=some ⟨true,sz,ds'⟩)
  (hC:CallOk P G f [.msl 1000 n,.lit kv] bx (.lit rv) bx') (hnil:ds=[]→ds'=[]∧CallOk P G f [.nil,.lit kv] (fun _=>none) (.lit rv) (fun _=>none))
  (hp:plain kv=true) (hn:nlkL ds=true) (hn':nlkL ds'=true) (hl:ds'.length=ds.length) (hsz:sz≠0) :
  TurnOk P f (fun u=>#[u,kv]) (.sl true sz n ds) rv (.sl true sz n ds'):=by
 intro V w K fp u hrep hnd hvr
 cases hrep with
 | on h =>
  cases h
  obtain⟨rfl,hCn⟩:=hnil rfl
  refine Calls.mono (hCn w V V K (fun _=>none) [.slice none 0 0,kv] (hG _ _ _ fun g hg=>?_) (fun _=>Nat.le_refl _) (fun _ _=>rfl) ⟨rfl,fun i x hx=>?_,fun b x hx=>(by cases hx),fun g l hg=>(by cases hg),hvr⟩) fun e w' hen=>?_
  ·rcases hg with h | h
   ·exact Nat.eq_zero_of_not_pos fun hp=>by have:=hvr g hp;omega
   ·exact absurd rfl h
  ·match i,hx with
   | 0,hx=>cases hx;exact⟨_,[],rfl,List.nodup_nil,by simp,.u (.one (.nl .nil))⟩
   | 1,hx=>cases hx;exact⟨_,[],rfl,List.nodup_nil,by simp,.lit hp⟩
  ·obtain⟨v,rfl,V1,O1,fp,b1,b2,b3,b4,b5,b6,hq,b7,b8⟩:=hen
   rw[lit_back hq]
   exact⟨rfl,V1,[],b1.sub (fun g h=>absurd rfl h),.on .nil,List.nodup_nil,by simp,b3,fun g hg _=>b4 g hg rfl⟩
 | @ow _ _ _ _ _ cap _ _ fq g T arr fz vs h1 h2 h3 h4 h5 h6 h7 h8 hin hrest =>
  cases hrest
  rw[List.append_nil] at hnd ⊢
  obtain⟨hgq,hqd⟩:=List.nodup_cons.1 hnd
  have hglt:g<w.heap.size:=(Array.getElem?_eq_some_iff.1 h2).1
  let V1:Nat→Nat:=fun x=>if x=g then 0 else V x
  let V2:Nat→Nat:=fun x=>if x∈g::fq then 0 else V x
  let K1:Nat→Nat×Nat:=fun b=>if b=1000 then (g,cap+1) else K b
  let O1:Nat→Option Loc:=fun x=>if x∈g::fq then some (false,1000) else none
  have hvs:vs.length≤arr.size:=by rw[h5,h4];exact Nat.mul_le_mul_right _ h1
  refine Calls.mono (hC w V2 V1 K1 O1 [.slice (some ⟨g,0,none⟩) n cap,kv] (hG _ _ _ fun x hx=>?_) (fun x=>?_) (fun x hx=>?_) ⟨rfl,fun i x hx=>?_,fun b x hx=>?_,fun x l hx=>?_,fun x hx=>?_⟩) fun e w' hen=>?_
  ·simp only[V2]
   split
   ·rfl
   ·rename_i hni
    rcases hx with h | h
    ·exact Nat.eq_zero_of_not_pos fun hp=>by have:=hvr x hp;omega
    ·simp only[O1,if_neg hni] at h;exact absurd rfl h
  ·simp only[V1,V2]
   split
   ·omega
   ·rename_i hni
    rw[if_neg (fun e=>hni (by rw[e];exact List.mem_cons_self))];omega
  ·have hni:x∉g::fq:=fun h=>by simp only[O1,if_pos h] at hx;cases hx
   simp only[V1,V2,if_neg hni]
   rw[if_neg (fun e=>hni (by rw[e];exact List.mem_cons_self))]
  ·match i,hx with
   | 0,hx =>
    cases hx
    refine⟨_,[],rfl,List.nodup_nil,by simp,.u (.one ?_)⟩
    have:=Rep.ms (V:=V1) (w:=w) (K:=K1) (fp:=[]) (us:=[]) (cs:=[]) (n:=n) (cap:=cap) 1000 (by simp[K1]) h1 .nil
    simpa [K1] using this
   | 1,hx=>cases hx;exact⟨_,[],rfl,List.nodup_nil,by simp,.lit hp⟩
  ·obtain⟨rfl,rfl⟩:=hbx b x hx
   refine⟨Nat.le_refl _,fq,arr,T,fz,vs,hnd,fun x hx=>by simp only[O1];exact if_pos hx,⟨h2,h3,h7,?_,?_,fun h=>absurd h hsz,fun _=>⟨cap,by simp[K1],h4,hvs,by rw[h5];simp⟩⟩⟩
   ·have:=hin.still (w':=w) (V':=V1) hn fun x hx=>⟨rfl,by
     have hne:x≠g:=fun e=>hgq (by rw[←e];exact hx)
     simp only[V1,if_neg hne]⟩
    exact(this.chK (this.noIds rfl) K1).up _ (fun e=>by cases e)
   ·simp[V1,K1]
  ·simp only[O1] at hx
   split at hx
   ·rename_i hm
    rcases List.mem_cons.1 hm with rfl | hm
    ·exact hglt
    ·exact hin.fp_lt x hm
   ·cases hx
  ·simp only[V1] at hx
   split at hx
   ·omega
   ·exact hvr x hx
  ·obtain⟨v,rfl,V3,O3,fp3,b1,b2,b3,b4,b5,b6,hq,b7,b8⟩:=hen
   rw[lit_back hq]
   obtain⟨fb,arr',T',fz',us',q1,q2,q3⟩:=b7 1000 _ hbx'
   have eK:(K1 1000).1=g:=by simp[K1]
   have eK2:(K1 1000).2=cap+1:=by simp[K1]
   obtain⟨hgb,hbd⟩:=List.nodup_cons.1 (eK ▸ q1)
   obtain⟨cap',e1,e2,e3,e4⟩:=q3.row hsz
   have hcap:cap'=cap:=by omega
   subst hcap
   have hlen:us'.length=n*sz:=by rw[q3.rep.len,hl,←hin.len,h5]
   have hsz0:((sz:Nat)==0)=false:=by simpa using hsz
   have hrep3:Rep V3 w' K1 false fb us' ds':=by have:=q3.rep;rwa [hsz0] at this
   refine⟨rfl,fun x=>if x=g then us'.length else V3 x,g::fb,b1.sub (fun x hx=>?_),?_,List.nodup_cons.2 ⟨hgb,hbd⟩,fun x hx=>?_,fun x hx=>?_,fun x hx hn=>?_⟩
   ·have hx:O1 x≠none:=hx
    simp only[O1] at hx
    split at hx
    ·assumption
    ·exact absurd rfl hx
   ·have h:=hrep3.still (w':=w') (V':=fun x=>if x=g then us'.length else V3 x) hn' fun x hx=>⟨rfl,by
     have hne:x≠g:=fun e=>hgb (by rw[←e];exact hx)
     show (if x=g then us'.length else V3 x)=V3 x
     rw[if_neg hne]⟩
    have:=Rep.ow (V:=fun x=>if x=g then us'.length else V3 x) (fp:=[]) (us:=[]) (cs:=[]) (m:=false) g T' arr' fz' us' h1 (by have:=q3.hp;rwa [eK] at this) q3.th e2 hlen hsz q3.pre (if_pos rfl) (h.chK (h.noIds rfl) K) .nil
    rwa [List.append_nil] at this
   ·rcases List.mem_cons.1 hx with rfl | hx
    ·exact .inl List.mem_cons_self
    ·have hO:=q2 x (by simp[hx])
     rcases(b8 x _ hO).1 with h | h
     ·exact .inr h
     ·left
      simp only[O1] at h
      split at h
      ·assumption
      ·exact absurd rfl h
   ·have hx:0<(if x=g then us'.length else V3 x):=hx
    split at hx
    ·rename_i e;subst e;exact Nat.lt_of_lt_of_le hglt b1.sz
    ·exact b3 x hx
   ·have hne:x≠g:=fun e=>hn (by rw[e];exact List.mem_cons_self)
    show (if x=g then us'.length else V3 x)=V x
    rw[if_neg hne]
    have hO:O1 x=none:=by simp only[O1];exact if_neg hn
    rw[b4 x hx hO]
    simp only[V2];exact if_neg hn
def stT (i:Nat)(x:AV)(s:S):S:={ s with t:=fun k=>if k=i then x else s.t k }
theorem killBox_nil(x:Box):killBox [] x=x:=by
 cases x;simp only[killBox,killAllL];split <;> rfl
theorem apply_stT(d:Nat)(x:AV)(s:S):(({ val:=x }:Eff).apply (some d) s)=stT d x s:=by
 have ht:∀i,((({ val:=x }:Eff).apply (some d) s)).t i=(stT d x s).t i:=fun i=>by
  simp only[Eff.apply,stT,lookup,killAll,Option.some.injEq]
  by_cases e:i=d
  ·subst e;simp
  ·rw[if_neg (fun h=>e h.symm),if_neg e]
 have hb:∀i,((({ val:=x }:Eff).apply (some d) s)).b i=(stT d x s).b i:=fun i=>by
  simp only[Eff.apply,stT,lookup,List.not_mem_nil,if_false]
  cases s.b i with
  | none=>rfl
  | some z=>simp only[Option.map_some,killBox_nil]
 cases h1:({ val:=x }:Eff).apply (some d) s with
 | mk t b =>
  cases h2:stT d x s with
  | mk t' b' =>
   have e1:t=t':=funext fun i=>by have:=ht i;rw[h1,h2] at this;exact this
   have e2:b=b':=funext fun i=>by have:=hb i;rw[h1,h2] at this;exact this
   rw[e1,e2]
theorem RelG.stT(R:RelG N w0 M V0 K V O s a w)(d:Nat)(hd:d<N)(x:AV)(v:Value)(h:RepV V w K [] v x):∃O',RelG N w0 M V0 K V O' (stT d x s) (a.put (some d) v) w:=by
 obtain⟨O',h'⟩:=R.pure (some d) v x [] (fun d' e=>by cases e;exact hd) h
 rw[show (({ val:=x,rd:=[] }:Eff).apply (some d) s)=Evl.stT d x s from apply_stT d x s] at h'
 exact⟨O',h'⟩
theorem eval_put_same{d:Nat}(hd:d<a.tmps.size)(v:Value):(a.put (some d) v).eval (.tmp d)=v:=getD_put_same a d v hd
theorem eval_put_other{d t:Nat}(h:d≠t)(v:Value):(a.put (some d) v).eval (.tmp t)=a.eval (.tmp t):=getD_put a (some d) v t (fun e=>h (by cases e;rfl))
structure MarkOps(P:Program)(ops:Array Oper)(p:Nat)(f:FuncId)(tL:TypeId)(xa xk:Operand)(dl dk dr da:Nat):Prop where
 sz:ops.size=p+4
 o0:∃o,ops[p]?=some o∧o.dst=some dl∧o.op=.load tL xa∧o.guard=none
 o1:∃o,ops[p+1]?=some o∧o.dst=some dk∧o.op=.move xk∧o.guard=none
 o2:∃o,ops[p+2]?=some o∧o.dst=some dr∧calleeOf o botS=some (f,[.tmp dl,.tmp dk],[])∧o.guard=none
 o3:∃o,ops[p+3]?=some o∧o.dst=some da∧o.op=.assign (.tmp dr)∧o.guard=none
 fn : ∃ fn c, P.funcs[f]? = some fn ∧ fn.body = some c ∧ (fn.name == "runtime.NumGoroutine") = false
 ne:dl≠dk∧xk≠.tmp dl
def markS(b j:Nat)(x:Box)(T':AV)(kv rv:Value)(dl dk dr da:Nat)(s:S):S :=
 stT da (.lit rv) (stT dr (.lit rv) (setBx b { x with cs:=x.cs.set j T' } (stT dk (.lit kv) (stT dl .bad s))))
theorem mc_mark(hG:∀M V0 w0,G M V0 w0→∀g,(w0.heap.size≤g∨M g)→V0 g=0){id p f tL dl dk dr da b j:Nat}{xa xk:Operand}(m:MarkOps P ops p f tL xa xk dl dk dr da)
  {s s1:S} {lg:List LogE} (hch:Chain P G ops s lg s1) (hlg:lg.map (·.i)=List.range p) (hdst:∀x∈lg,x.dst=(ops[x.i]?).bind (·.dst))
  {x:Box} {T T':AV} {kv rv:Value} {mk:Value→Array Value} {ld:Value→Value} (hk:s1.ev xk=.lit kv) (hb:s1.b b=some x) (hj:x.cs[j]?=some T) (hn:nlkS s1) (hnT:∀b n,T≠.msl b n)
  (hT:TurnOk P f mk T rv T') (hmk:∀u,mk u=#[ld u,kv]) (hrv:plain rv=true)
  (hld:∀{N w0 M V0 K V O a w},RelG N w0 M V0 K V O s1 a w→∀u,w.cell? ⟨(K b).1,j,none⟩=some u→∀o:Oper,o.op=.load tL xa→(execOp a.eval o).run P w=.ok (.value (ld u)) w) :
  MC P G (.region id ops false) s .nor (markS b j x T' kv rv dl dk dr da s1):=by
 intro N w0 M V0 V K O a w hg hok R Q hQ
 refine wp_region ?_
 obtain⟨o0,i0,d0,p0,g0⟩:=m.o0
 obtain⟨o1,i1,d1,p1,g1⟩:=m.o1
 obtain⟨o2,i2,d2,p2,g2⟩:=m.o2
 obtain⟨o3,i3,d3,p3,g3⟩:=m.o3
 obtain⟨fn,c,hf,hbd,hnm⟩:=m.fn
 have hN:∀(i:Nat) (o:Oper) (d:Nat),ops[i]?=some o→o.dst=some d→d<N:=fun i o d h e=>by
  simp only[codeOk,opsOk,Array.all_eq_true_iff_forall_mem] at hok
  have:=hok o (Array.mem_of_getElem? h)
  rw[e] at this;simpa using this
 have hr:List.range ops.size=lg.map (·.i)++[p,p+1,p+2,p+3]:=by
  rw[hlg,m.sz,show p+4=p+1+1+1+1 from rfl,List.range_succ,List.range_succ,List.range_succ,List.range_succ];simp
 rw[hr]
 have ahead:∀{s lg s1} (_:Chain P G ops s lg s1) (_:∀x∈lg,x.dst=(ops[x.i]?).bind (·.dst)) {V K O a w},RelG N w0 M V0 K V O s a w→∀(rest:List Nat),(∀a' w' K' V' O',RelG N w0 M V0 K' V' O' s1 a' w'→(∀b,1000≤b→K' b=K b)→wpOps P ops Q rest a' w')→wpOps P ops Q (lg.map (·.i)++rest) a w:=by
  intro s lg s1 h
  induction h with
  | nil s=>intro _ V K O a w R rest hq;exact hq a w K V O R fun _ _=>rfl
  | cons s x lg s2 he _ ih =>
   intro hdst V K O a w R rest hq
   simp only[List.map_cons,List.cons_append,wpOps_cons]
   refine he N w0 M V0 V K O s a w hg R ⟨fun _ _=>rfl,fun _ _=>rfl⟩ (fun d hd=>?_) Q _ fun a' w' K' V' O' R' hK=>ih (fun y hy=>hdst y (by simp[hy])) R' rest fun a'' w'' K'' V'' O'' R'' hK''=>hq _ _ _ _ _ R'' fun b hb=>(hK'' b hb).trans (hK b hb)
   have:=hdst x (by simp)
   rw[hd] at this
   cases ho:ops[x.i]? with
   | none=>rw[ho] at this;cases this
   | some o=>rw[ho] at this;exact hN _ o d ho (by simpa using this.symm)
 refine ahead hch hdst R _ fun a1 w1 K1 V1 O1 R1 hK1=>?_
 obtain⟨u,-,hcell,-⟩:=lend R1 (hG _ _ _ hg) hn hb hj hT hnT
 have hdl:=hN _ _ _ i0 d0
 have hdk:=hN _ _ _ i1 d1
 have hdr:=hN _ _ _ i2 d2
 have hda:=hN _ _ _ i3 d3
 have hN1:=R1.n
 refine wpOps_val i0 g0 (hld R1 u hcell o0 p0) ?_
 rw[d0]
 obtain⟨O2,R2⟩:=R1.stT dl hdl .bad (ld u) (.bad _)
 have hkv2:(a1.put (some dl) (ld u)).eval xk=kv∧plainX kv=true:=by
  have hev:(stT dl .bad s1).ev xk=.lit kv:=by
   rw[←hk]
   cases xk with
   | tmp t =>
    have:t≠dl:=fun e=>m.ne.2 (by rw[e])
    simp[S.ev,stT,this]
   | _=>rfl
  obtain⟨f1,_,_,_,h1⟩:=R2.ev xk
  rw[hev] at h1
  exact⟨(inv_lit h1).1,(inv_lit h1).2.2⟩
 refine wpOps_val i1 g1 (v:=kv) (w':=w1) (by simp[execOp,p1,hkv2.1]) ?_
 rw[d1]
 obtain⟨O3,R3⟩:=R2.stT dk hdk (.lit kv) kv (.litX hkv2.2)
 have hn3:nlkS (stT dk (.lit kv) (stT dl .bad s1)):=⟨fun t=>by
  simp only[stT]
  split
  ·rfl
  ·split
   ·rfl
   ·exact hn.1 t,hn.2⟩
 obtain⟨u3,-,hcell3,hcall⟩:=lend R3 (hG _ _ _ hg) hn3 (b:=b) (x:=x) hb hj hT hnT
 have hu:u3=u:=by rw[hcell] at hcell3;exact(Option.some.inj hcell3).symm
 subst hu
 have hargs:([.tmp dl,.tmp dk]:List Operand).map ((a1.put (some dl) (ld u3)).put (some dk) kv).eval=[ld u3,kv]:=by
  simp only[List.map_cons,List.map_nil]
  rw[eval_put_same (by rw[put_size,hN1];exact hdk),eval_put_other (Ne.symm m.ne.1),eval_put_same (by rw[hN1];exact hdl)]
 refine wpOps_call i2 g2 (f:=f) (args:=#[ld u3,kv]) (by rw[call_run R3.df p2 hf hbd hnm,hargs]) ?_
 rw[hmk] at hcall
 refine Calls.mono hcall fun e w2 ⟨he,V4,O4,R4⟩=>⟨rv,he,?_⟩
 rw[d2]
 obtain⟨O5,R5⟩:=R4.stT dr hdr (.lit rv) rv (.lit hrv)
 have hsz5:dr<((a1.put (some dl) (ld u3)).put (some dk) kv).tmps.size:=by rw[put_size,put_size,hN1];exact hdr
 refine wpOps_val i3 g3 (v:=rv) (w':=w2) (by simp only[execOp,p3,eval_put_same hsz5];rfl) ?_
 rw[d3]
 obtain⟨O6,R6⟩:=R5.stT da hda (.lit rv) rv (.lit hrv)
 exact hQ _ _ _ _ _ R6 hK1
end Evl
namespace Evl
open Go
variable {P:Program}{w w':World}{V V':Nat→Nat}{a:Act}{v:Value}
def IsOp (ops:Array Oper)(i d:Nat)(op:Op):Prop:=∃o,ops[i]?=some o∧o.dst=some d∧o.op=op∧o.guard=none
theorem turn_wrap{f g tS tL:Nat}{fn gn:Func}{gc:Code}{i0 i1 i2:Nat}{p0 p1 p2:Array Oper}{k0:Value}{off size:Nat}
  (hf:P.funcs[f]?=some fn) (hb:fn.body=some (.seq (.region i0 p0 false) (.seq (.region i1 p1 false) (.seq (.region i2 p2 false) .ret)))) (hN:fn.ntmps=10) (hres:fn.results=#[.tmp 4])
  (hg : P.funcs[g]? = some gn) (hgb : gn.body = some gc) (hgn : (gn.name == "runtime.NumGoroutine") = false)
  (s0:p0.size=2) (s1:p1.size=5) (s2:p2.size=2)
  (a0:IsOp p0 0 2 (.box tS (.tmp 0))) (a1:IsOp p0 1 4 (.assign (.const k0)))
  (b0:IsOp p1 0 5 (.fieldAddr tS (.tmp 2) 2)) (b1:IsOp p1 1 6 (.load tL (.tmp 5))) (b2:IsOp p1 2 7 (.move (.tmp 1)))
  (b3:∃o,p1[3]?=some o∧o.dst=some 8∧calleeOf o botS=some (g,[.tmp 6,.tmp 7],[])∧o.guard=none) (b4:IsOp p1 4 1 (.assign (.tmp 8)))
  (c0:IsOp p2 0 9 (.move (.tmp 1))) (c1:IsOp p2 1 4 (.assign (.tmp 9)))
  (hfl:tfield P tS 2=some (off,size)) (hag:tagg P tL=some false)
  {T T':AV} {kv rv:Value} {pre:List Value} (hpre:pre.length=off) (hT:TurnOk P g (fun u=>#[u,kv]) T rv T') :
  TurnOk P f (fun u=>#[.agg (pre++[u]).toArray,kv]) T rv T':=by
 intro V w K fp u hrep hnd hvr
 refine calls_of_wp hf hb ?_
 obtain⟨oa0,ia0,da0,pa0,ga0⟩:=a0
 obtain⟨oa1,ia1,da1,pa1,ga1⟩:=a1
 obtain⟨ob0,ib0,db0,pb0,gb0⟩:=b0
 obtain⟨ob1,ib1,db1,pb1,gb1⟩:=b1
 obtain⟨ob2,ib2,db2,pb2,gb2⟩:=b2
 obtain⟨ob3,ib3,db3,pb3,gb3⟩:=b3
 obtain⟨ob4,ib4,db4,pb4,gb4⟩:=b4
 obtain⟨oc0,ic0,dc0,pc0,gc0⟩:=c0
 obtain⟨oc1,ic1,dc1,pc1,gc1⟩:=c1
 rw[hN]
 generalize ha:({ tmps:=#[.agg (pre++[u]).toArray,kv]++Array.replicate (10-(#[Value.agg (pre++[u]).toArray,kv]:Array Value).size) undef,defers:=[] }:Act)=a
 have had:a.defers=[]:=by rw[←ha]
 have hsz:a.tmps.size=10:=by rw[←ha];simp
 have e0:a.eval (.tmp 0)=.agg (pre++[u]).toArray:=by rw[←ha];rfl
 have e1:a.eval (.tmp 1)=kv:=by rw[←ha];rfl
 clear ha
 let w1:=w.alloc (.cells (pre++[u]).toArray tS)
 let ad:Value:=.pointer (some ⟨w.heap.size,0,none⟩)
 have hold:∀x,x<w.heap.size→w1.heap[x]?=w.heap[x]?:=fun x hx=>by
  simp only[w1,World.alloc,Array.getElem?_push];rw[if_neg (by omega)]
 have hh:w1.heap[w.heap.size]?=some (.cells (pre++[u]).toArray tS):=by
  show (w.heap.push _)[w.heap.size]?=_
  simp
 have hcell:w1.cell? ⟨w.heap.size,off,none⟩=some u:=by
  simp only[World.cell?,hh]
  simp[←hpre]
 have hw1:w.heap.size≤w1.heap.size:=by
  show w.heap.size≤(w.heap.push _).size
  simp
 refine wp_seq (wp_region ?_)
 rw[show List.range p0.size=[0,1] by rw[s0];rfl]
 refine wpOps_val ia0 ga0 (v:=ad) (w':=w1) ?_ (wpOps_val ia1 ga1 (v:=k0) (w':=w1) ?_ ?_)
 ·simp[execOp,pa0,Instr.box,newVar,newRow,e0,ad,w1,Value.cells]
 ·simp[execOp,pa1,Act.eval]
 rw[da0,da1]
 refine wp_seq (wp_region ?_)
 rw[show List.range p1.size=[0,1,2,3,4] by rw[s1];rfl]
 have q2:((a.put (some 2) ad).put (some 4) k0).eval (.tmp 2)=ad:=by rw[eval_put_other (by omega),eval_put_same (by omega)]
 have q1:((a.put (some 2) ad).put (some 4) k0).eval (.tmp 1)=kv:=by rw[eval_put_other (by omega),eval_put_other (by omega),e1]
 have qs:((a.put (some 2) ad).put (some 4) k0).tmps.size=10:=by rw[put_size,put_size,hsz]
 have qd:((a.put (some 2) ad).put (some 4) k0).defers=[]:=by rw[put_defers,put_defers,had]
 generalize ((a.put (some 2) ad).put (some 4) k0)=a2 at *
 refine wpOps_val ib0 gb0 (v:=.pointer (some ⟨w.heap.size,off,none⟩)) (w':=w1) ?_ ?_
 ·simp only[execOp,pb0,q2,Sem.run_bind]
  rw[show ad=.pointer (some ⟨w.heap.size,0,none⟩) from rfl,tfield_run hfl,Nat.zero_add];rfl
 rw[db0]
 refine wpOps_val ib1 gb1 (v:=u) (w':=w1) ?_ ?_
 ·have e5:(a2.put (some 5) (.pointer (some ⟨w.heap.size,off,none⟩))).eval (.tmp 5)=.pointer (some ⟨w.heap.size,off,none⟩):=by rw[eval_put_same (by omega)]
  have:=run_loadVar_one (P:=P) (w:=w1) hag w.heap.size off u hcell
  simp[execOp,pb1,e5,Instr.loadAt,Instr.sureAddr,this]
 rw[db1]
 refine wpOps_val ib2 gb2 (v:=kv) (w':=w1) ?_ ?_
 ·simp only[execOp,pb2]
  rw[eval_put_other (by omega),eval_put_other (by omega),q1];rfl
 rw[db2]
 have hd3:(((a2.put (some 5) (.pointer (some ⟨w.heap.size,off,none⟩))).put (some 6) u).put (some 7) kv).defers=[]:=by rw[put_defers,put_defers,put_defers,qd]
 have x6:(((a2.put (some 5) (.pointer (some ⟨w.heap.size,off,none⟩))).put (some 6) u).put (some 7) kv).eval (.tmp 6)=u:=by rw[eval_put_other (by omega),eval_put_same (by rw[put_size];omega)]
 have x7:(((a2.put (some 5) (.pointer (some ⟨w.heap.size,off,none⟩))).put (some 6) u).put (some 7) kv).eval (.tmp 7)=kv:=by rw[eval_put_same (by rw[put_size,put_size];omega)]
 have xs:(((a2.put (some 5) (.pointer (some ⟨w.heap.size,off,none⟩))).put (some 6) u).put (some 7) kv).tmps.size=10:=by rw[put_size,put_size,put_size,qs]
 generalize (((a2.put (some 5) (.pointer (some ⟨w.heap.size,off,none⟩))).put (some 6) u).put (some 7) kv)=a3 at *
 have hrep1:Rep V w1 K false fp [u] [T]:=hrep.mono (fun x o ho=>by simp only[World.cell?,hold x (hvr x (by omega))]) (fun _=>Nat.le_refl _) hw1 (fun x hx=>⟨hold x (hrep.fp_lt x hx),rfl⟩) (fun _ _=>rfl)
 refine wpOps_call ib3 gb3 (f:=g) (args:=#[u,kv]) (by rw[call_run hd3 pb3 hg hgb hgn];simp only[List.map_cons,List.map_nil,x6,x7]) ?_
 refine Calls.mono (hT V w1 K fp u hrep1 hnd fun x hx=>Nat.lt_of_lt_of_le (hvr x hx) hw1) fun e w2 ⟨he,V2,fp2,hfr,hr2,hn2,hi2,hv2,ho2⟩=>⟨rv,he,?_⟩
 rw[db3]
 refine wpOps_val ib4 gb4 (v:=rv) (w':=w2) (by simp only[execOp,pb4];rw[eval_put_same (by omega)];rfl) ?_
 rw[db4]
 refine wp_seq (wp_region ?_)
 rw[show List.range p2.size=[0,1] by rw[s2];rfl]
 refine wpOps_val ic0 gc0 (v:=rv) (w':=w2) (by simp only[execOp,pc0];rw[eval_put_same (by rw[put_size];omega)];rfl) ?_
 rw[dc0]
 refine wpOps_val ic1 gc1 (v:=rv) (w':=w2) (by simp only[execOp,pc1];rw[eval_put_same (by rw[put_size,put_size];omega)];rfl) ?_
 rw[dc1]
 refine wp_ret ?_
 refine⟨by rw[put_defers,put_defers,put_defers,put_defers,hd3],rv,?_,rfl,V2,fp2,?_,hr2,hn2,fun x hx=>?_,hv2,fun x hx hn=>ho2 x (Nat.lt_of_lt_of_le hx hw1) hn⟩
 ·have:((((a3.put (some 8) rv).put (some 1) rv).put (some 9) rv).put (some 4) rv).tmps.getD 4 undef=rv:=getD_put_same _ 4 rv (by rw[put_size,put_size,put_size];omega)
  rw[Array.getD_eq_getD_getElem?] at this
  simp[results,hres,this]
 ·exact⟨hfr.os,hfr.tape,hfr.output,Nat.le_trans hw1 hfr.sz,fun x hx hn=>(hfr.old x (Nat.lt_of_lt_of_le hx hw1) hn).trans (hold x hx)⟩
 ·rcases hi2 x hx with h | h
  ·exact .inl h
  ·exact .inr (Nat.le_trans hw1 h)
end Evl
namespace Evl
open Go
variable {P:Program}{H:Hints}{Y:FuncId→List AV→(Nat→Option Box)→AV→(Nat→Option Box)→Prop}{fid:FuncId}{G:GP}
def withMarks(H:Hints)(P:Program)(fl:FuncId→Bool)(iv:(Nat→Nat)→World→Prop):Hints :=
 { H with fl:=fl,iv:=iv,zc:=fun fid c s s'=>MC P (fun M V0 w0=>iv V0 w0∧(fl fid=true→∀g,(w0.heap.size≤g∨M g)→V0 g=0)) c s .nor s' }
theorem zc_to{H:Hints}{fl:FuncId→Bool}{iv:(Nat→Nat)→World→Prop}{c:Code}{s s':S}(h:(withMarks H P fl iv).zc fid c s s'):MC P (Gd (withMarks H P fl iv) fid) c s .nor s':=h
def notTmp(d:Nat):Operand→Bool
 | .tmp t=>t != d
 | _=>true
theorem notTmp_ne{d:Nat}{x:Operand}(h:notTmp d x=true):x≠.tmp d:=by
 intro e;subst e;simp[notTmp] at h
def markOf(ops:Array Oper)(p:Nat):Option (TypeId×Operand×Operand×FuncId×Nat×Nat×Nat×Nat) :=
 match ops[p]?,ops[p+1]?,ops[p+2]?,ops[p+3]? with
 | some o0,some o1,some o2,some o3 =>
  match o0.op,o0.dst,o0.guard,o1.op,o1.dst,o1.guard with
  | .load tL xa,some dl,none,.move xk,some dk,none =>
   match calleeOf o2 botS,o2.dst,o2.guard,o3.op,o3.dst,o3.guard with
   | some (f,[.tmp a,.tmp b],[]),some dr,none,.assign (.tmp r),some da,none =>
    if ops.size=p+4∧a=dl∧b=dk∧r=dr∧dl≠dk∧notTmp dl xk=true then some (tL,xa,xk,f,dl,dk,dr,da) else none
   | _,_,_,_,_,_=>none
  | _,_,_,_,_,_=>none
 | _,_,_,_=>none
def isFn (P:Program)(f:FuncId):Bool:=match P.funcs[f]? with
 | some fn => fn.body.isSome && !(fn.name == "runtime.NumGoroutine")
 | none=>false
theorem isFn_of {f : FuncId} (h : isFn P f = true) : ∃ fn c, P.funcs[f]? = some fn ∧ fn.body = some c ∧ (fn.name == "runtime.NumGoroutine") = false := by
 unfold isFn at h
 split at h
 ·rename_i fn hf
  simp only[Bool.and_eq_true,Bool.not_eq_true'] at h
  obtain⟨c,hc⟩:=Option.isSome_iff_exists.1 h.1
  exact⟨fn,c,hf,hc,h.2⟩
 ·cases h
theorem markOf_ok{ops:Array Oper}{p f dl dk dr da:Nat}{tL:TypeId}{xa xk:Operand}(h:markOf ops p=some (tL,xa,xk,f,dl,dk,dr,da))(hf:isFn P f=true):MarkOps P ops p f tL xa xk dl dk dr da:=by
 unfold markOf at h
 split at h
 ·rename_i o0 o1 o2 o3 h0 h1 h2 h3
  split at h
  ·rename_i q0 q1 q2 q3 q4 q5
   split at h
   ·rename_i r0 r1 r2 r3 r4 r5
    simp only[Option.ite_none_right_eq_some,Option.some.injEq,Prod.mk.injEq] at h
    obtain⟨⟨z,rfl,rfl,rfl,n1,n2⟩,rfl,rfl,rfl,rfl,rfl,rfl,rfl,rfl⟩:=h
    exact⟨z,⟨o0,h0,q1,q0,q2⟩,⟨o1,h1,q4,q3,q5⟩,⟨o2,h2,r1,r0,r2⟩,⟨o3,h3,r4,r3,r5⟩,isFn_of hf,n1,notTmp_ne n2⟩
   ·cases h
  ·cases h
 ·cases h
theorem L.toS_t(l:L)(i:Nat):l.toS.t i=(match lookup i l.ts with | some v=>v | none=>.bad):=rfl
theorem L.toS_b(l:L)(i:Nat):l.toS.b i=lookup i l.bs:=rfl
theorem mark_less{l:L}{b j dl dk dr da:Nat}{x:Box}{T':AV}{kv rv:Value}{s1:S}(e:List Nat)(hs1:(∀i,i∉e→s1.t i=l.toS.t i)∧s1.b=l.toS.b)(he:∀i∈e,lookup i l.ts=none)(h1:lookup dl l.ts=none)(h2:lookup dk l.ts=none)(h3:lookup dr l.ts=none) :
  WkS (markS b j x T' kv rv dl dk dr da s1) (⟨(da,.lit rv)::l.ts,(b,{ x with cs:=x.cs.set j T' })::l.bs⟩:L).toS:=by
 refine⟨fun i=>?_,fun c y hy=>?_⟩
 ·rw[L.toS_t]
  simp only[lookup,markS,stT,setBx]
  by_cases ha:da=i
  ·subst ha;simp only[if_true];exact .inl (.inl (.inl rfl))
  ·rw[if_neg ha,if_neg (fun e=>ha e.symm)]
   by_cases hr:i=dr
   ·subst hr;rw[h3];exact .inl (.inl (.inr (.inl rfl)))
   ·rw[if_neg hr]
    by_cases hk:i=dk
    ·subst hk;rw[h2];exact .inl (.inl (.inr (.inl rfl)))
    ·rw[if_neg hk]
     by_cases hl:i=dl
     ·subst hl;rw[h1];exact .inl (.inl (.inr (.inl rfl)))
     ·rw[if_neg hl]
      by_cases hi:i∈e
      ·rw[he i hi];exact .inl (.inl (.inr (.inl rfl)))
      ·rw[hs1.1 i hi,L.toS_t];exact .inl (.inl (.inl rfl))
 ·rw[L.toS_b] at hy
  simp only[lookup] at hy
  simp only[markS,stT,setBx]
  by_cases hb:b=c
  ·subst hb
   simp only[if_true,Option.some.injEq] at hy
   subst hy
   exact⟨_,if_pos rfl,rfl,rfl,wkCs_refl _⟩
  ·rw[if_neg hb] at hy
   rw[if_neg (fun e=>hb e.symm)]
   exact⟨y,by show s1.b c=_;rw[hs1.2,L.toS_b];exact hy,rfl,rfl,wkCs_refl _⟩
theorem x_zone{k:List Td}{Q:X→L→Prop}{l u:L}{c:Code}{s':S}(hr:Code.isRegion false c=true)(hz:H.zc fid c l.toS s')(hs:WkS s' u.toS)(hw:Wk P H Y fid k Q u):Wk P H Y fid (.code c::k) Q l:=by
 refine⟨?_⟩
 cases c <;> simp[Code.isRegion] at hr
 subst hr
 exact⟨.nor,u,.wke (.zreg hz) hs,hw.out⟩
def nlkLs(l:L):Bool:=(l.ts.all fun q=>nlk q.2)&&l.bs.all fun q=>nlkL q.2.cs
theorem nlkLs_ok{l:L}(h:nlkLs l=true):nlkS l.toS:=by
 unfold nlkLs at h
 simp only[Bool.and_eq_true,List.all_eq_true] at h
 have lk:∀{α:Type} (i:Nat) (v:α) (m:List (Nat×α)),lookup i m=some v→(i,v)∈m:=by
  intro α i v m
  induction m with
  | nil=>intro h;cases h
  | cons q m ih =>
   obtain⟨j,x⟩:=q
   intro h
   simp only[lookup] at h
   split at h
   ·rename_i e;subst e;cases h;exact List.mem_cons_self
   ·exact List.mem_cons_of_mem _ (ih h)
 refine⟨fun t=>?_,fun b x hb=>h.2 _ (lk b x _ hb)⟩
 rw[L.toS_t]
 split
 ·rename_i v hv;exact h.1 _ (lk t v _ hv)
 ·rfl
def nestOf(ops:Array Oper):Option (Nat×Nat×Nat×Nat×TypeId×Nat×TypeId×Nat×Nat) :=
 match ops[0]?,ops[1]?,ops[2]?,ops[3]? with
 | some o0,some o1,some o2,some o3 =>
  match o0.op,o0.dst,o0.guard,o1.op,o1.dst,o1.guard with
  | .move (.tmp tr),some e0,none,.move (.tmp ti),some e1,none =>
   match o2.op,o2.dst,o2.guard,o3.op,o3.dst,o3.guard with
   | .indexAddr tS (.tmp a0) (.tmp a1),some e2,none,.fieldAddr tF (.tmp a2) fld,some e3,none =>
    if a0=e0∧a1=e1∧a2=e2∧e0≠e1∧e0≠ti then some (tr,ti,e0,e1,tS,e2,tF,fld,e3) else none
   | _,_,_,_,_,_=>none
  | _,_,_,_,_,_=>none
 | _,_,_,_=>none
theorem gd_none{ops:Array Oper}{o:Oper}{s:S}(h:o.guard=none):gd ops o s=some true:=by unfold gd;rw[h]
theorem stT_same(d:Nat)(x:AV)(s:S):(stT d x s).t d=x:=if_pos rfl
theorem stT_ne{d i:Nat}(x:AV)(s:S)(h:i≠d):(stT d x s).t i=s.t i:=if_neg h
theorem x_nest{k:List Td}{Q:X→L→Prop}{l:L}{c:Code}{tL f dl dk dr da b n z off szf el bytes tr ti tk e0 e1 tS e2 tF fld e3:Nat}{kk:IntKind}{i:Int}{cs:List AV}{T T':AV}{kv rv:Value}
  (hfl:H.fl fid=true) (hzc:∀c s s',MC P (Gd H fid) c s .nor s'→H.zc fid c s s')
  (hr:(Code.isRegion false c,nestOf (Code.opsOf c),markOf (Code.opsOf c) 4,isFn P f,tagg P tL,tarr P tS,tslice P tS,tfield P tF fld)=(true,some (tr,ti,e0,e1,tS,e2,tF,fld,e3),some (tL,.tmp e3,.tmp tk,f,dl,dk,dr,da),true,some false,none,some (el,z,bytes),some (off,szf)))
  (hs:(l.get tr,l.get ti,l.get tk)=(.msl b n,.lit (.int kk i),.lit kv))
  (hf:(lookup e0 l.ts,lookup e1 l.ts,lookup e2 l.ts,lookup e3 l.ts,lookup dl l.ts,lookup dk l.ts,lookup dr l.ts)=(none,none,none,none,none,none,none))
  (hb:lookup b l.bs=some ⟨true,z,cs⟩) (hi:0≤i∧i<n) (hj:cs[i.toNat*z+off]?=some T) (hn:nlkLs l=true) (hnT:∀b n,T≠.msl b n) (hrv:plain rv=true)
  (hT:TurnOk P f (fun u=>#[u,kv]) T rv T')
  (hw:Wk P H Y fid k Q ⟨(da,.lit rv)::l.ts,(b,⟨true,z,cs.set (i.toNat*z+off) T'⟩)::l.bs⟩):Wk P H Y fid (.code c::k) Q l:=by
 simp only[Prod.mk.injEq] at hr hs hf
 obtain⟨r1,r2,r3,r4,r5,r6,r7,r8⟩:=hr
 obtain⟨v0,v1,v2⟩:=hs
 obtain⟨n0,n1,n2,n3,n4,n5,n6⟩:=hf
 have hne:∀{t e:Nat} {y:AV},l.get t=y→y≠.bad→lookup e l.ts=none→t≠e:=fun h1 h2 h3 e=>by
  subst e;unfold L.get at h1;rw[h3] at h1;exact h2 h1.symm
 have x1:l.toS.t tr=.msl b n:=v0
 have x2:l.toS.t ti=.lit (.int kk i):=v1
 have x3:l.toS.t tk=.lit kv:=v2
 let sA:=stT e0 (.msl b n) l.toS
 let sB:=stT e1 (.lit (.int kk i)) sA
 let sC:=stT e2 (.ptr b (i.toNat*z)) sB
 let sD:=stT e3 (.ptr b (i.toNat*z+off)) sC
 have k3:∀e∈[e0,e1,e2,e3],tk≠e:=fun e he=>hne v2 (by simp) (by
  simp only[List.mem_cons,List.not_mem_nil,or_false] at he
  rcases he with rfl | rfl | rfl | rfl <;> assumption)
 have hD:(∀t,t∉[e0,e1,e2,e3]→sD.t t=l.toS.t t)∧sD.b=l.toS.b:=by
  refine⟨fun t ht=>?_,rfl⟩
  simp only[List.mem_cons,List.not_mem_nil,or_false,not_or] at ht
  simp only[sD,sC,sB,sA]
  rw[stT_ne _ _ ht.2.2.2,stT_ne _ _ ht.2.2.1,stT_ne _ _ ht.2.1,stT_ne _ _ ht.1]
 have hnD:nlkS sD:=by
  have h0:=nlkLs_ok hn
  refine⟨fun t=>?_,h0.2⟩
  have st:∀(d:Nat) (x:AV) (s:S),nlk x=true→(∀t,nlk (s.t t)=true)→∀t,nlk ((stT d x s).t t)=true:=fun d x s hx hs t=>by
   simp only[stT];split
   ·exact hx
   ·exact hs t
  exact st _ _ _ rfl (st _ _ _ rfl (st _ _ _ rfl (st _ _ _ rfl h0.1))) t
 have hmc:MC P (Gd H fid) c l.toS .nor (markS b (i.toNat*z+off) ⟨true,z,cs⟩ T' kv rv dl dk dr da sD):=by
  cases c <;> simp[Code.isRegion] at r1
  subst r1
  rename_i id ops
  simp only[Code.opsOf] at r2 r3
  unfold nestOf at r2
  split at r2
  ·rename_i o0 o1 o2 o3 h0 h1 h2 h3
   split at r2
   ·rename_i a0 e0' q0 q1 q2 q3 q4 q5 q6 q7
    split at r2
    ·rename_i m0 m1 m2 m3 m4 m5 m6 m7 m8 m9 p0 p1 p2 p3 p4 p5
     simp only[Option.ite_none_right_eq_some,Option.some.injEq,Prod.mk.injEq] at r2
     obtain⟨⟨y0,y1,y2,z1,z2⟩,w0,w1,w2,w3,w4,w5,w6,w7,w8⟩:=r2
     rw[w0] at q2;rw[w2] at q3;rw[w1] at q5;rw[w3] at q6;rw[w4,y0,w2,y1,w3] at p0;rw[w5] at p1;rw[w6,y2,w5,w7] at p3;rw[w8] at p4;rw[w2,w3] at z1;rw[w2,w1] at z2
     let Hz:Hints:={ mv:=fun _ _=>false,own:=fun _ _=>false,mt:=fun _ _=>false,eqt:=fun _=>false }
     have hE:EqtOk P Hz:=fun t h=>by cases h
     have f0:sD.t e3=.ptr b (i.toNat*z+off):=stT_same _ _ _
     have fk:sD.ev (.tmp tk)=.lit kv:=by
      show sD.t tk=_
      rw[hD.1 tk (fun h=>k3 tk h rfl)];exact x3
     have op0:opE P Hz fid o0 l.toS=some { val:=.msl b n,set:=[] }:=by simp[opE,q2,S.ev,x1,given,hasOwn]
     have op1:opE P Hz fid o1 sA=some { val:=.lit (.int kk i),set:=[] }:=by
      have:sA.t ti=.lit (.int kk i):=by rw[show sA.t ti=l.toS.t ti from stT_ne _ _ (Ne.symm z2)];exact x2
      simp[opE,q5,S.ev,this,given,hasOwn]
     have op2:opE P Hz fid o2 sB=some { val:=.ptr b (i.toNat*z),rd:=[b] }:=by
      have u1:sB.t e1=.lit (.int kk i):=stT_same _ _ _
      have u0:sB.t e0=.msl b n:=by rw[show sB.t e0=sA.t e0 from stT_ne _ _ z1];exact stT_same _ _ _
      have ub:sB.b b=some ⟨true,z,cs⟩:=hb
      simp only[opE,p0,S.ev,u1,u0,r6,r7,ub]
      rw[if_pos ⟨trivial,hi⟩]
     have op3:opE P Hz fid o3 sC=some { val:=.ptr b (i.toNat*z+off) }:=by
      have u2:sC.t e2=.ptr b (i.toNat*z):=stT_same _ _ _
      simp only[opE,p3,S.ev,u2,r8]
     have en:∀(j:Nat) (o:Oper) (s:S) (e:Eff),ops[j]?=some o→o.guard=none→opE P Hz fid o s=some e→e.kl=[]→EntryOk P (Gd H fid) ops (mkLog ops j o s e) s:=fun j o s e h1 h2 h3 h4 =>
      entry_step (H:=Hz) hE h1 (gd_none h2) h3 (by rw[h4];rfl)
     refine mc_mark (s1:=sD) (lg:=[mkLog ops 0 o0 l.toS { val:=.msl b n,set:=[] },mkLog ops 1 o1 sA { val:=.lit (.int kk i),set:=[] },mkLog ops 2 o2 sB { val:=.ptr b (i.toNat*z),rd:=[b] },mkLog ops 3 o3 sC { val:=.ptr b (i.toNat*z+off) }])
      (fun M V0 w0 h=>h.2 hfl) (markOf_ok r3 r4) ?_ rfl ?_ fk hb hj hnD hnT hT (ld:=fun u=>u) (fun u=>rfl) hrv ?_
     ·refine .cons _ _ _ _ (en 0 o0 _ _ h0 q4 op0 rfl) ?_
      rw[show (mkLog ops 0 o0 l.toS { val:=.msl b n,set:=[] }).eff.apply (mkLog ops 0 o0 l.toS { val:=.msl b n,set:=[] }).dst l.toS=sA by show Eff.apply _ o0.dst l.toS=_;rw[q3];exact apply_stT _ _ _]
      refine .cons _ _ _ _ (en 1 o1 _ _ h1 q7 op1 rfl) ?_
      rw[show (mkLog ops 1 o1 sA { val:=.lit (.int kk i),set:=[] }).eff.apply (mkLog ops 1 o1 sA { val:=.lit (.int kk i),set:=[] }).dst sA=sB by show Eff.apply _ o1.dst sA=_;rw[q6];exact apply_stT _ _ _]
      refine .cons _ _ _ _ (en 2 o2 _ _ h2 p2 op2 rfl) ?_
      rw[show (mkLog ops 2 o2 sB { val:=.ptr b (i.toNat*z),rd:=[b] }).eff.apply (mkLog ops 2 o2 sB { val:=.ptr b (i.toNat*z),rd:=[b] }).dst sB=sC by show Eff.apply _ o2.dst sB=_;rw[p1];exact apply_stT _ _ _]
      refine .cons _ _ _ _ (en 3 o3 _ _ h3 p5 op3 rfl) ?_
      rw[show (mkLog ops 3 o3 sC { val:=.ptr b (i.toNat*z+off) }).eff.apply (mkLog ops 3 o3 sC { val:=.ptr b (i.toNat*z+off) }).dst sC=sD by show Eff.apply _ o3.dst sC=_;rw[p4];exact apply_stT _ _ _]
      exact .nil _
     ·intro x hx
      simp only[List.mem_cons,List.not_mem_nil,or_false] at hx
      rcases hx with rfl | rfl | rfl | rfl <;> simp[mkLog, *]
     ·intro N w0 M V0 K V O a w R u hu o ho
      obtain⟨f1,_,_,_,h1⟩:=R.ev (.tmp e3)
      rw[show sD.ev (.tmp e3)=.ptr b (i.toNat*z+off) from f0] at h1
      obtain⟨e1,-⟩:=inv_ptr h1
      have hl:=run_loadVar_one (P:=P) (w:=w) r5 (K b).1 (i.toNat*z+off) u hu
      simp[execOp,ho,e1,Instr.loadAt,Instr.sureAddr,hl]
    ·cases r2
   ·cases r2
  ·cases r2
 refine x_zone r1 (hzc _ _ _ hmc) (u:=⟨(da,.lit rv)::l.ts,(b,⟨true,z,cs.set (i.toNat*z+off) T'⟩)::l.bs⟩) ?_ hw
 exact mark_less (l:=l) (b:=b) (j:=i.toNat*z+off) (x:=⟨true,z,cs⟩) (T':=T') (kv:=kv) (rv:=rv) (da:=da) (s1:=sD) [e0,e1,e2,e3] hD (by
  intro e he
  simp only[List.mem_cons,List.not_mem_nil,or_false] at he
  rcases he with rfl | rfl | rfl | rfl <;> assumption) n4 n5 n6
end Evl
namespace Evl.T
open Go Evl
variable {P:Program}{H:Hints}{Y:FuncId→List AV→(Nat→Option Box)→AV→(Nat→Option Box)→Prop}{fid:FuncId}
def TurnP(P:Program)(f:FuncId){τ:Type}(e:Enc τ)(a:List τ×Int)(r:Int×List τ):Prop :=
 r.2.length=a.1.length∧TurnOk P f (fun u=>#[u,.int .i64 a.2]) (.sl true e.z a.1.length (e.f a.1)) (.int .i64 r.1) (.sl true e.z r.2.length (e.f r.2))
theorem x_endR(n:Nat)(q:List (Nat×Or)){k:List Td}{l:L}{fn:Func}{i:Nat}{x y:Box}{r:AV}{ps:List Prop}(hobs:All ps)
  (h:(ex P H Y fid n k l q).bind (fun x=>match resH P x.2.1.toS [] fn.results.toList with
   | some (v,[])=>some (atEnd x.1,v,lookup i x.2.1.bs,x.2.2)
   | _=>none)=some (true,r,some y,ps)) (hi:1000≤i) (hc:cleanL y.cs=true) (hz:(y.sz,y.st)=(x.sz,true)) (hl:y.cs.length=x.cs.length):Wk P H Y fid k (FinX P fn [(i,x)] r [(i,y)]) l:=by
 obtain⟨⟨k1,l1,ps1⟩,h1,h2⟩:=Option.bind_eq_some_iff.1 h
 simp only at h2
 split at h2
 ·rename_i hr
  simp only[Option.some.injEq,Prod.mk.injEq] at h2 hz
  obtain⟨h3,rfl,hb,rfl⟩:=h2
  have e1:exitOk (lk [(i,x)]) l1.toS:=fun j z hj=>by
   simp only[lk,lookup] at hj
   split at hj
   ·rename_i e;subst e
    simp only[Option.some.injEq] at hj;subst hj
    exact⟨hi,y,hb,hc,hz.1,hz.2,hl⟩
   ·cases hj
  have e2:exitB (lk [(i,x)]) l1.toS=lk [(i,y)]:=funext fun j=>by
   simp only[exitB,lk,lookup]
   by_cases e:i=j
   ·subst e;simp only[if_pos rfl];exact hb
   ·simp only[if_neg e]
  exact⟨ex_ok n h1 hobs (wx_end ⟨.inl rfl,resH_ok hr trivial,e1,e2⟩ ⟨.inr rfl,resH_ok hr trivial,e1,e2⟩ h3)⟩
 ·cases h2
theorem x_callR{f:FuncId}{fn:Func}{c:Code}{args:List AV}{r:AV}{i:Nat}{x y:Box}(h1:P.funcs[f]?=some fn)
  (h2 : (fn.body, fn.name == "runtime.NumGoroutine", args.length, decide (args.length ≤ fn.ntmps), codeOk fn.ntmps c) = (some c, false, fn.params.size + fn.nfree, true, true)) (hz : y.sz = x.sz ∧ y.cs.length = x.cs.length)
  (hw:Wk P H Y f [.code c] (FinX P fn [(i,y)] r [(i,y)]) ⟨args.zipIdx.map fun q=>(q.2,q.1),[(i,x)]⟩):Big P H Y (.call f args (lk [(i,x)]) r (lk [(i,y)])):=by
 simp only[Prod.mk.injEq] at h2
 obtain⟨e1,e2,e3,e4,e5⟩:=h2
 obtain⟨x',l',hb,h3,⟨v,h4,h5⟩,h6,h7⟩:=hw.out
 have h8:exitOk (lk [(i,x)]) l'.toS:=fun j z hj=>by
  simp only[lk,lookup] at hj
  split at hj
  ·rename_i e;subst e
   simp only[Option.some.injEq] at hj;subst hj
   obtain⟨g1,u,g2,g3,g4,g5,g6⟩:=h6 i y (by simp[lk,lookup])
   exact⟨g1,u,g2,g3,g4.trans hz.1,g5,g6.trans hz.2⟩
  ·cases hj
 have h9:exitB (lk [(i,x)]) l'.toS=lk [(i,y)]:=by
  rw[←h7]
  funext j
  simp only[exitB,lk,lookup]
  by_cases e:i=j
  ·subst e;simp
  ·simp only[if_neg e]
 exact .wkr (call_of [(i,x)] (fun _=>rfl) h1 e1 e2 e3 (of_decide_eq_true e4) e5 _ rfl ⟨x',l',hb,h3,h4,h8,h9⟩) h5
theorem lget_in{α:Type}{l:List α}{j:Int}{x:α}(h:lget l j=some x):0≤j∧j<(l.length:Nat):=by
 unfold lget at h
 split at h
 ·rename_i hj
  have:=(List.getElem?_eq_some_iff.1 h).1
  omega
 ·cases h
theorem lget_at{α:Type}{l:List α}{j:Int}{x:α}(h:lget l j=some x):l[j.toNat]?=some x:=by
 unfold lget at h
 split at h
 ·exact h
 ·cases h
theorem solGet{l:List Sol}{j:Int}{x:Sol}(h:lget l j=some x):((eSol true).f l)[j.toNat*6+5]?=some (.sl true 6 x.kids.length ((eSol true).f x.kids)):=by
 have h1:=(eSol true).dropx (lget_at h)
 have:((eSol true).f l)[j.toNat*6+5]?=(((eSol true).f l).drop (j.toNat*6))[5]?:=by rw[List.getElem?_drop]
 rw[this]
 have h1':((eSol true).f l).drop (j.toNat*6)=(eSol true).c x++(eSol true).f (l.drop (j.toNat+1)):=h1
 rw[h1'];rfl
theorem solSet{l:List Sol}{j:Int}{x:Sol}(h:lget l j=some x)(k:List Sol):((eSol true).f l).set (j.toNat*6+5) (.sl true 6 k.length ((eSol true).f k))=(eSol true).f (l.set j.toNat (Sol.mk x.inn x.pl k)):=by
 have hs:=stA (eSol true) h 5 1 [.sl true 6 k.length ((eSol true).f k)] (Sol.mk x.inn x.pl k) rfl rfl
 have hs2:(eSol true).f (l.set j.toNat (Sol.mk x.inn x.pl k))=((eSol true).f l).take (j.toNat*6+5)++[.sl true 6 k.length ((eSol true).f k)]++((eSol true).f l).drop (j.toNat*6+5+1):=hs.2
 have hlt:j.toNat*6+5<((eSol true).f l).length:=by have:=hs.1;exact this
 rw[hs2,List.set_eq_take_append_cons_drop,if_pos hlt]
 simp
mutual
theorem nLk1:∀s:Sol,nlkL (cSol true s)=true
 | .mk i p k=>by rw[cSol];simp[nlkL,nlk,nLk0 k]
theorem nLk0:∀l:List Sol,nlkL (cSols true l)=true
 | []=>by rw[cSols];rfl
 | x::xs=>by
  rw[cSols]
  have app:∀a b:List AV,nlkL (a++b)=(nlkL a&&nlkL b):=by
   intro a b
   induction a with
   | nil=>simp[nlkL]
   | cons y a ih=>simp[nlkL,ih,Bool.and_assoc]
  rw[app,nLk1 x,nLk0 xs];rfl
end
theorem nLk(l:List Sol):nlkL ((eSol true).f l)=true:=nLk0 l
theorem clean_app:∀a b:List AV,cleanL (a++b)=(cleanL a&&cleanL b):=fun a b=>by unfold cleanL;exact List.all_append
theorem cleanEnc{τ:Type}(e:Enc τ)(h:∀x,cleanL (e.c x)=true)(l:List τ):cleanL (e.f l)=true:=by
 rw[e.hf]
 induction l with
 | nil=>rfl
 | cons x l ih=>simp only[fl];rw[clean_app,h,ih];rfl
theorem cleanSol(l:List Sol):cleanL ((eSol true).f l)=true:=cleanEnc (eSol true) (fun _=>rfl) l
theorem turnP_of{H0:Hints}{fl:FuncId→Bool}{f:FuncId}{τ:Type}{e:Enc τ}(hE:EqtOk P (withMarks H0 P fl fun _ _=>True))(hM:P.follows .mixedOrders=true){a0:List τ}{a1:Int}{r:Int×List τ}(hl:r.2.length=a0.length)
  (hw:Big P (withMarks H0 P fl fun _ _=>True) (fun _ _ _ _ _=>False) (.call f [.msl 1000 a0.length,i64 a1] (lk [(1000,⟨true,e.z,e.f a0⟩)]) (i64 r.1) (lk [(1000,⟨true,e.z,e.f r.2⟩)])))
  (hnil:a0=[]→Big P (withMarks H0 P fl fun _ _=>True) (fun _ _ _ _ _=>False) (.call f [.nil,i64 a1] (lk []) (i64 r.1) (lk []))) (hn:∀l,nlkL (e.f l)=true) (hz:e.z≠0):TurnP P f e (a0,a1) r:=by
 refine⟨hl,?_⟩
 rw[hl]
 have hf:∀l:List τ,e.f l=[]→l=[]:=fun l h=>by
  have:=e.len l
  rw[h,List.length_nil] at this
  rcases Nat.mul_eq_zero.1 this.symm with h | h
  ·exact List.length_eq_zero_iff.1 h
  ·exact absurd h hz
 refine turn_row (G:=Gd (withMarks H0 P fl fun _ _=>True) f) (fun M V0 w h=>⟨trivial,fun _=>h⟩) (fun b x hx=>?_) ?_ (big_sound hE hM (fun _ _ _ _ _ _=>trivial) (fun _ _ _ _ _ h=>zc_to h) (fun _ _ _ _ _ h=>h.elim) hw).1 (fun h=>?_) rfl (hn _) (hn _) (by rw[e.len,e.len,hl]) hz
 ·simp only[lk,lookup] at hx
  split at hx
  ·rename_i eb;cases hx;exact⟨eb.symm,rfl⟩
  ·cases hx
 ·simp[lk,lookup]
 ·have h0:=hf a0 h
  have h1:r.2=[]:=List.length_eq_zero_iff.1 (by rw[hl,h0];rfl)
  refine⟨by rw[h1,e.hf];rfl,?_⟩
  exact(big_sound hE hM (fun _ _ _ _ _ _=>trivial) (fun _ _ _ _ _ h=>zc_to h) (fun _ _ _ _ _ h=>h.elim) (hnil h0)).1
def oldS (K:List Sol):AV:=.sl false 6 K.length ((eSol false).f K)
inductive OldCs(l:List (Value×AV)):List AV→List AV→Prop
 | nil:OldCs l [] []
 | same {xs ys} (x:AV):OldCs l xs ys→OldCs l (x::xs) (x::ys)
 | old {u x xs ys}:(u,x)∈l→OldCs l xs ys→OldCs l (.lit u::xs) (x::ys)
inductive OldA(l:List (Value×AV)):AV→AV→Prop
 | same (x:AV):OldA l x x
 | one {u:Value} {x:AV}:(u,x)∈l→OldA l (.lit u) x
 | agg {cs ds:List AV}:OldCs l cs ds→OldA l (.agg cs) (.agg ds)
inductive OldAs(l:List (Value×AV)):List AV→List AV→Prop
 | nil:OldAs l [] []
 | cons {x y xs ys}:OldA l x y→OldAs l xs ys→OldAs l (x::xs) (y::ys)
theorem oNil{l:List (Value×AV)}:OldAs l [] []:=.nil
theorem oCons{l:List (Value×AV)}{x y:AV}{xs ys:List AV}(h:OldA l x y)(k:OldAs l xs ys):OldAs l (x::xs) (y::ys):=.cons h k
theorem oSame{l:List (Value×AV)}(x:AV):OldA l x x:=.same x
theorem OldAs.at{l:List (Value×AV)}{xs ys:List AV}(h:OldAs l xs ys):xs.length=ys.length∧∀(i:Nat) (y:AV),ys[i]?=some y→∃x,xs[i]?=some x∧OldA l x y:=by
 induction h with
 | nil=>exact⟨rfl,fun i y h=>by simp at h⟩
 | cons h _ ih =>
  refine⟨by simp[ih.1],fun i y hy=>?_⟩
  cases i with
  | zero=>simp only[List.getElem?_cons_zero,Option.some.injEq] at hy;subst hy;exact⟨_,rfl,h⟩
  | succ i=>simpa using ih.2 i y (by simpa using hy)
def ivL (l:List (Value×AV)):(Nat→Nat)→World→Prop:=fun V w=>∀q∈l,Rep V w (fun _=>(0,0)) false [] [q.1] [q.2]
theorem OldCs.rep{l:List (Value×AV)}{V:Nat→Nat}{w:World}{K:Nat→Nat×Nat}(hl:∀q∈l,Rep V w K true [] [q.1] [q.2]){cs ds:List AV}(h:OldCs l cs ds):∀{fp:List Nat} {us:List Value},Rep V w K true fp us cs→Rep V w K true fp us ds:=by
 induction h with
 | nil=>intro fp us h;exact h
 | same x _ ih =>
  intro fp us h
  obtain⟨f1,f2,u1,u2,rfl,rfl,r1,r2⟩:=Rep.split [x] h
  exact r1.app (ih r2)
 | @old u x xs ys hm _ ih =>
  intro fp us h
  obtain⟨f1,f2,u1,u2,rfl,rfl,r1,r2⟩:=Rep.split [.lit u] h
  cases r1 with
  | lit hp r3=>cases r3;exact(hl _ hm).app (ih r2)
def HLg (H0:Hints)(P:Program)(fl:FuncId→Bool)(l:List (Value×AV)):Hints:=withMarks H0 P fl (ivL l)
def YLg (H:Hints)(P:Program)(l:List (Value×AV)):FuncId→List AV→(Nat→Option Box)→AV→(Nat→Option Box)→Prop :=
 fun f args bx r bx'=>∃args',OldAs l args args'∧Big P H (fun _ _ _ _ _=>False) (.call f args' bx r bx')
theorem call_fn {j : Judg} (h : Big P H Y j) : ∀ f args bx r bx', j = .call f args bx r bx' → ∃ fn c, P.funcs[f]? = some fn ∧ fn.body = some c ∧ (fn.name == "runtime.NumGoroutine") = false := by
 induction h with
 | wka _ _ ih=>intro f args bx r bx' e;cases e;exact ih _ _ _ _ _ rfl
 | wkr _ _ ih=>intro f args bx r bx' e;cases e;exact ih _ _ _ _ _ rfl
 | given h1 h2 h3 _=>intro f args bx r bx' e;cases e;exact⟨_,_,h1,h2,h3⟩
 | body h1 h2 h3=>intro f args bx r bx' e;cases e;exact⟨_,_,h1,h2,h3⟩
 | bodyq i t3 t4 z n cs s1 xc xf sc sf rf h1 h2 h3=>intro f args bx r bx' e;cases e;exact⟨_,_,h1,h2,h3⟩
 | _=>intro f args bx r bx' e;cases e
theorem gvL{HL:Hints}{l:List (Value×AV)}{f:FuncId}{args args':List AV}{bx bx':Nat→Option Box}{r:AV}(h:Big P H (fun _ _ _ _ _=>False) (.call f args' bx r bx'))(ho:OldAs l args args'):Big P HL (YLg H P l) (.call f args bx r bx'):=by
 obtain⟨fn,c,h1,h2,h3⟩:=call_fn h _ _ _ _ _ rfl
 exact .given h1 h2 h3 ⟨args',ho,h⟩
theorem mark_law{H0:Hints}{fl:FuncId→Bool}{l:List (Value×AV)}(hE:EqtOk P (withMarks H0 P fl fun _ _=>True))(hM:P.follows .mixedOrders=true){j:Judg}(h:Big P (HLg H0 P fl l) (YLg (withMarks H0 P fl fun _ _=>True) P l) j):Mot P (HLg H0 P fl l) j:=by
 refine big_sound (H:=HLg H0 P fl l) (fun t ht=>hE t ht) hM (fun V V' w w' n hi q hq=>?_) (fun _ _ _ _ _ h=>zc_to h) (fun f args bx r bx' hy=>?_) h
 ·have:=hi q hq
  exact this.mono n.cell n.le n.sz (by simp) (by rw[this.noIds rfl];simp)
 ·obtain⟨args',ho,hb⟩:=hy
  have hc:=(big_sound hE hM (fun _ _ _ _ _ _=>trivial) (fun _ _ _ _ _ h=>zc_to h) (fun _ _ _ _ _ h=>h.elim) hb).1
  intro w0 V0 V K O vs hg hle heq E
  refine hc w0 V0 V K O vs ⟨trivial,hg.2⟩ hle heq ⟨E.len.trans ho.at.1,fun i y hy=>?_,E.bx,E.rg,E.vr⟩
  obtain⟨x,hx,hoa⟩:=ho.at.2 i y hy
  obtain⟨v,fp,g1,g2,g3,g4⟩:=E.args i x hx
  have hl:∀q∈l,Rep V w0 K true [] [q.1] [q.2]:=fun q hq=>by
   have h1:=(hg.1 q hq).vmono hle (by simp)
   exact(h1.chK (h1.noIds rfl) K).up true (by simp)
  cases hoa with
  | same=>exact⟨v,fp,g1,g2,g3,g4⟩
  | one hm =>
   obtain⟨rfl,rfl,-⟩:=inv_lit g4
   exact⟨v,[],g1,g2,g3,.u (.one (hl _ hm))⟩
  | agg hc =>
   refine⟨v,fp,g1,g2,g3,?_⟩
   obtain⟨us,rfl,hr⟩:=inv_agg g4
   exact .u (.agg (hc.rep hl hr))
theorem frk_tt{α:Type}(x y:Option α):frk true x y=x:=rfl
def opAt (ops:Array Oper)(i:Nat):Option (Option Nat×Op×Option (Nat×Bool)):=(ops[i]?).map fun o=>(o.dst,o.op,o.guard)
theorem isOp_of{ops:Array Oper}{i d:Nat}{op:Op}(h:opAt ops i=some (some d,op,none)):IsOp ops i d op:=by
 unfold opAt at h
 obtain⟨o,h1,h2⟩:=Option.map_eq_some_iff.1 h
 simp only[Prod.mk.injEq] at h2
 exact⟨o,h1,h2.1,h2.2.1,h2.2.2⟩
def calleeAt(ops:Array Oper)(i:Nat):Option (Option Nat×Option (FuncId×List Operand×List AV)×Option (Nat×Bool)):=(ops[i]?).map fun o=>(o.dst,calleeOf o botS,o.guard)
theorem calleeAt_of{ops:Array Oper}{i d:Nat}{q:FuncId×List Operand×List AV}(h:calleeAt ops i=some (some d,some q,none)):∃o,ops[i]?=some o∧o.dst=some d∧calleeOf o botS=some q∧o.guard=none:=by
 unfold calleeAt at h
 obtain⟨o,h1,h2⟩:=Option.map_eq_some_iff.1 h
 simp only[Prod.mk.injEq] at h2
 exact⟨o,h1,h2.1,h2.2.1,h2.2.2⟩
end Evl.T
namespace Evl
open Go
variable {P:Program}{w w':World}{V V':Nat→Nat}{a:Act}{v:Value}
def TurnsOk(P:Program)(f:FuncId)(mk:List Value→Array Value)(Ts:List AV)(r:Value)(Ts':List AV):Prop :=
 ∀(V:Nat→Nat) (w:World) (K:Nat→Nat×Nat) (fp:List Nat) (us:List Value),Rep V w K false fp us Ts→fp.Nodup→(∀g,0<V g→g<w.heap.size) →
  Calls P f (mk us) w fun e w'=>e=.returned r∧∃(V':Nat→Nat) (fp':List Nat),Fr w (fun g=>g∈fp) w'∧Rep V' w' K false fp' us Ts'∧fp'.Nodup∧(∀g∈fp',g∈fp∨w.heap.size≤g) ∧
   (∀g,0<V' g→g<w'.heap.size)∧∀g,g<w.heap.size→g∉fp→V' g=V g
theorem turn_mid{f:FuncId}{mk:Value→Array Value}{T T':AV}{r:Value}(hT:TurnOk P f mk T r T'){c1 c2:List AV}(hn1:nlkL c1=true)(hn2:nlkL c2=true)
  {K:Nat→Nat×Nat} {f1 f2 f3:List Nat} {u1:List Value} {u:Value} {u2:List Value} (r1:Rep V w K false f1 u1 c1) (r2:Rep V w K false f2 [u] [T]) (r3:Rep V w K false f3 u2 c2)
  (hnd:(f1++(f2++f3)).Nodup) (hvr:∀g,0<V g→g<w.heap.size) :
  Calls P f (mk u) w fun e w'=>e=.returned r∧∃(V':Nat→Nat) (fp':List Nat),Fr w (fun g=>g∈f1++(f2++f3)) w'∧Rep V' w' K false fp' (u1++([u]++u2)) (c1++([T']++c2))∧fp'.Nodup∧(∀g∈fp',g∈f1++(f2++f3)∨w.heap.size≤g) ∧
   (∀g,0<V' g→g<w'.heap.size)∧∀g,g<w.heap.size→g∉f1++(f2++f3)→V' g=V g:=by
 obtain⟨d1,d23,d123⟩:=List.nodup_append.1 hnd
 obtain⟨d2,d3,dx⟩:=List.nodup_append.1 d23
 refine Calls.mono (hT V w K f2 u r2 d2 hvr) fun e w' ⟨he,V',fp',hfr,hr,hn,hin,hv,ho⟩=>⟨he,?_⟩
 have keep:∀g,g<w.heap.size→g∉f2→w'.heap[g]?=w.heap[g]?∧V' g=V g:=fun g h1 h2=>⟨hfr.old g h1 h2,ho g h1 h2⟩
 have e1:∀g∈f1,w'.heap[g]?=w.heap[g]?∧V' g=V g:=fun g hg=>keep g (r1.fp_lt g hg) fun h=>d123 g hg g (List.mem_append_left _ h) rfl
 have e3:∀g∈f3,w'.heap[g]?=w.heap[g]?∧V' g=V g:=fun g hg=>keep g (r3.fp_lt g hg) fun h=>dx g h g hg rfl
 have fresh:∀g∈fp',∀h,h<w.heap.size→h∉f2→g≠h:=fun g hg h hl hni e=>by
  subst e
  rcases hin g hg with q | q
  ·exact hni q
  ·omega
 refine⟨V',f1++(fp'++f3),⟨hfr.os,hfr.tape,hfr.output,hfr.sz,fun g hg hni=>hfr.old g hg fun h=>hni (by simp[h])⟩,(r1.still hn1 e1).app (hr.app (r3.still hn2 e3)),?_,fun g hg=>?_,hv,fun g hg hni=>ho g hg fun h=>hni (by simp[h])⟩
 ·refine List.nodup_append.2 ⟨d1,List.nodup_append.2 ⟨hn,d3,fun x hx y hy=>fresh x hx y (r3.fp_lt y hy) fun h=>dx y h y hy rfl⟩,fun x hx y hy e=>?_⟩
  subst e
  rcases List.mem_append.1 hy with hy | hy
  ·exact fresh x hy x (r1.fp_lt x hx) (fun h=>d123 x hx x (List.mem_append_left _ h) rfl) rfl
  ·exact d123 x hx x (List.mem_append_right _ hy) rfl
 ·rcases List.mem_append.1 hg with hg | hg
  ·exact .inl (by simp[hg])
  ·rcases List.mem_append.1 hg with hg | hg
   ·rcases hin g hg with h | h
    ·exact .inl (by simp[h])
    ·exact .inr h
   ·exact .inl (by simp[hg])
def cellsA(els:List (List Value×AV×AV)):List AV:=els.flatMap fun q=>q.1.map AV.lit++[q.2.1]
def cellsB(els:List (List Value×AV×AV)):List AV:=els.flatMap fun q=>q.1.map AV.lit++[q.2.2]
theorem nlk_app:∀l1 l2:List AV,nlkL (l1++l2)=(nlkL l1&&nlkL l2)
 | [],l2=>by simp[nlkL]
 | y::l,l2=>by simp only[List.cons_append,nlkL,nlk_app l l2,Bool.and_assoc]
theorem nlk_lits:∀l:List Value,nlkL (l.map AV.lit)=true
 | []=>rfl
 | _::l=>by simp only[List.map_cons,nlkL,nlk_lits l];rfl
theorem nlk_A:∀{els:List (List Value×AV×AV)},(∀q∈els,nlk q.2.1=true)→nlkL (cellsA els)=true
 | [],_=>rfl
 | q::els,h=>by
  have:=nlk_A (els:=els) fun x hx=>h x (by simp[hx])
  show nlkL ((q.1.map AV.lit++[q.2.1])++cellsA els)=true
  rw[nlk_app,nlk_app,nlk_lits,this]
  simp[nlkL,h q (by simp)]
theorem nlk_B:∀{els:List (List Value×AV×AV)},(∀q∈els,nlk q.2.2=true)→nlkL (cellsB els)=true
 | [],_=>rfl
 | q::els,h=>by
  have:=nlk_B (els:=els) fun x hx=>h x (by simp[hx])
  show nlkL ((q.1.map AV.lit++[q.2.2])++cellsB els)=true
  rw[nlk_app,nlk_app,nlk_lits,this]
  simp[nlkL,h q (by simp)]
theorem len_B{z:Nat}:∀{els:List (List Value×AV×AV)},(∀q∈els,q.1.length+1=z)→(cellsB els).length=els.length*z
 | [],_=>by simp[cellsB]
 | q::els,h=>by
  have:=len_B (z:=z) (els:=els) fun x hx=>h x (by simp[hx])
  show ((q.1.map AV.lit++[q.2.2])++cellsB els).length=_
  rw[List.length_append,List.length_append,this,List.length_map]
  show q.1.length+1+els.length*z=(els.length+1)*z
  rw[Nat.add_mul,h q (by simp)]
  omega
theorem evp_ne{d t:Nat}{y:Value}(x:Value)(h:a.eval (.tmp t)=y)(hd:d≠t):(a.put (some d) x).eval (.tmp t)=y:=by rw[eval_put_other hd];exact h
theorem cellAt{g:Nat}{us:List Value}{T:TypeId}{j:Nat}{x:Value}(hh:w.heap[g]?=some (.cells us.toArray T))(hj:us[j]?=some x):w.cell? ⟨g,j,none⟩=some x:=by
 simp only[World.cell?,hh];simp[hj]
structure Inv8(wE:World)(VE:Nat→Nat)(K:Nat→Nat×Nat)(fpE:List Nat)(us:List Value)(tA:TypeId)(els:List (List Value×AV×AV))(kvs:Nat→Value)(i:Nat)(a:Act)(w:World):Prop where
 le:i≤els.length
 df:a.defers=[]
 n:a.tmps.size=16
 t1:a.eval (.tmp 1)=kvs i
 t2:a.eval (.tmp 2)=.pointer (some ⟨wE.heap.size,0,none⟩)
 t5:a.eval (.tmp 5)=.int .i64 i
 hp:w.heap[wE.heap.size]?=some (.cells us.toArray tA)
 fr:Fr wE (fun g=>g∈fpE) w
 rep:∃V fp,Rep V w K false fp us (cellsB (els.take i)++cellsA (els.drop i))∧fp.Nodup∧(∀g∈fp,(g∈fpE∨wE.heap.size≤g)∧g≠wE.heap.size)∧(∀g,0<V g→g<w.heap.size)∧∀g,g<wE.heap.size→g∉fpE→V g=VE g
theorem turns8{f g tA tS:Nat}{fn gn:Func}{gc:Code}{i0 i1 i2 i3 i4 i5:Nat}{p0 p1 p2 p3 p4 p5:Array Oper}{ty1 ty2 ty3 ty4:TypeId}{k0:Value}{z:Nat}
  (hf:P.funcs[f]?=some fn)
  (hb:fn.body=some (.seq (.region i0 p0 false) (.seq (.seq (.region i1 p1 false) (.block 0 (.loop (.seq (.seq (.region i2 p2 false) (.cond (.tmp 7) .skip (.exit 0))) (.seq (.block 1 (.region i4 p4 false)) (.region i3 p3 false)))))) (.seq (.region i5 p5 false) .ret))))
  (hN:fn.ntmps=16) (hres:fn.results=#[.tmp 4])
  (hg : P.funcs[g]? = some gn) (hgb : gn.body = some gc) (hgn : (gn.name == "runtime.NumGoroutine") = false)
  (s0:p0.size=2) (s1:p1.size=1) (s2:p2.size=2) (s3:p3.size=3) (s4:p4.size=6) (s5:p5.size=2)
  (a0:IsOp p0 0 2 (.box tA (.tmp 0))) (a1:IsOp p0 1 4 (.assign (.const k0)))
  (b0:IsOp p1 0 5 (.assign (.const (.int .i64 0))))
  (c0:IsOp p2 0 6 (.move (.tmp 5))) (c1:IsOp p2 1 7 (.binOp .lss ty1 (.tmp 6) (.const (.int .i64 8)) ty2))
  (d0:IsOp p4 0 10 (.move (.tmp 5))) (d1:IsOp p4 1 11 (.indexAddr tA (.tmp 2) (.tmp 10))) (d2:IsOp p4 2 12 (.load tS (.tmp 11))) (d3:IsOp p4 3 13 (.move (.tmp 1)))
  (d4:∃o,p4[4]?=some o∧o.dst=some 14∧calleeOf o botS=some (g,[.tmp 12,.tmp 13],[])∧o.guard=none) (d5:IsOp p4 5 1 (.assign (.tmp 14)))
  (e0:IsOp p3 0 8 (.move (.tmp 5))) (e1:IsOp p3 1 9 (.binOp .add ty3 (.tmp 8) (.const (.int .i64 1)) ty4)) (e2:IsOp p3 2 5 (.assign (.tmp 9)))
  (f0:IsOp p5 0 15 (.move (.tmp 1))) (f1:IsOp p5 1 4 (.assign (.tmp 15)))
  (hta:tarr P tA=some (8,z)) (htg:tagg P tS=some true) (hts:tsize P tS=some z)
  {els:List (List Value×AV×AV)} {kvs:Nat→Value} (hl8:els.length=8) (hz:∀q∈els,q.1.length+1=z) (hn:∀q∈els,nlk q.2.1=true∧nlk q.2.2=true)
  (hT:∀i q,els[i]?=some q→TurnOk P g (fun u=>#[.agg (q.1++[u]).toArray,kvs i]) q.2.1 (kvs (i+1)) q.2.2) :
  TurnsOk P f (fun us=>#[.agg us.toArray,kvs 0]) (cellsA els) (kvs 8) (cellsB els):=by
 intro VE wE K fpE us hrep hnd hvr
 refine calls_of_wp hf hb ?_
 obtain⟨oa0,ia0,da0,pa0,ga0⟩:=a0
 obtain⟨oa1,ia1,da1,pa1,ga1⟩:=a1
 obtain⟨ob0,ib0,db0,pb0,gb0⟩:=b0
 obtain⟨oc0,ic0,dc0,pc0,gc0⟩:=c0
 obtain⟨oc1,ic1,dc1,pc1,gc1⟩:=c1
 obtain⟨od0,id0,dd0,pd0,gd0⟩:=d0
 obtain⟨od1,id1,dd1,pd1,gd1⟩:=d1
 obtain⟨od2,id2,dd2,pd2,gd2⟩:=d2
 obtain⟨od3,id3,dd3,pd3,gd3⟩:=d3
 obtain⟨od4,id4,dd4,pd4,gd4⟩:=d4
 obtain⟨od5,id5,dd5,pd5,gd5⟩:=d5
 obtain⟨oe0,ie0,de0,pe0,ge0⟩:=e0
 obtain⟨oe1,ie1,de1,pe1,ge1⟩:=e1
 obtain⟨oe2,ie2,de2,pe2,ge2⟩:=e2
 obtain⟨of0,if0,df0,pf0,gf0⟩:=f0
 obtain⟨of1,if1,df1,pf1,gf1⟩:=f1
 rw[hN]
 generalize ha:({ tmps:=#[.agg us.toArray,kvs 0]++Array.replicate (16-(#[Value.agg us.toArray,kvs 0]:Array Value).size) undef,defers:=[] }:Act)=a
 have had:a.defers=[]:=by rw[←ha]
 have hsz:a.tmps.size=16:=by rw[←ha];simp
 have x0:a.eval (.tmp 0)=.agg us.toArray:=by rw[←ha];rfl
 have x1:a.eval (.tmp 1)=kvs 0:=by rw[←ha];rfl
 clear ha
 let w1:=wE.alloc (.cells us.toArray tA)
 let ad:Value:=.pointer (some ⟨wE.heap.size,0,none⟩)
 have hold:∀x,x<wE.heap.size→w1.heap[x]?=wE.heap[x]?:=fun x hx=>by
  simp only[w1,World.alloc,Array.getElem?_push];rw[if_neg (by omega)]
 have hh:w1.heap[wE.heap.size]?=some (.cells us.toArray tA):=by
  show (wE.heap.push _)[wE.heap.size]?=_
  simp
 have hw1:wE.heap.size<w1.heap.size:=by
  show wE.heap.size<(wE.heap.push _).size
  simp
 refine wp_seq (wp_region ?_)
 rw[show List.range p0.size=[0,1] by rw[s0];rfl]
 refine wpOps_val ia0 ga0 (v:=ad) (w':=w1) ?_ (wpOps_val ia1 ga1 (v:=k0) (w':=w1) ?_ ?_)
 ·simp[execOp,pa0,Instr.box,newVar,newRow,x0,ad,w1,Value.cells]
 ·simp[execOp,pa1,Act.eval]
 rw[da0,da1]
 have y1:=evp_ne (d:=4) k0 (evp_ne (d:=2) ad x1 (by decide)) (by decide)
 have y2:((a.put (some 2) ad).put (some 4) k0).eval (.tmp 2)=ad:=evp_ne (d:=4) k0 (eval_put_same (by omega) ad) (by decide)
 have yn:((a.put (some 2) ad).put (some 4) k0).tmps.size=16:=by rw[put_size,put_size,hsz]
 have yd:((a.put (some 2) ad).put (some 4) k0).defers=[]:=by rw[put_defers,put_defers,had]
 generalize ((a.put (some 2) ad).put (some 4) k0)=a2 at *
 refine wp_seq (wp_seq (wp_region ?_))
 rw[show List.range p1.size=[0] by rw[s1];rfl]
 refine wpOps_val ib0 gb0 (v:=.int .i64 0) (w':=w1) (by simp[execOp,pb0,Act.eval]) ?_
 rw[db0]
 refine wp_block (wp_loop (fun a' w'=>∃i,Inv8 wE VE K fpE us tA els kvs i a' w') (fun a' _=>match a'.eval (.tmp 5) with | .int _ j=>8-j.toNat | _=>0) ⟨0,Nat.zero_le _,by rw[put_defers,yd],by rw[put_size,yn],evp_ne _ y1 (by decide),evp_ne _ y2 (by decide),eval_put_same (by omega) _,hh,⟨rfl,rfl,rfl,Nat.le_of_lt hw1,fun x hx _=>hold x hx⟩,VE,fpE,?_,hnd,fun x hx=>?_,fun x hx=>Nat.lt_trans (hvr x hx) hw1,fun _ _ _=>rfl⟩ ?_)
 ·have:Rep VE w1 K false fpE us (cellsA els):=hrep.mono (fun x o ho=>by simp only[World.cell?,hold x (hvr x (by omega))]) (fun _=>Nat.le_refl _) (Nat.le_of_lt hw1) (fun x hx=>⟨hold x (hrep.fp_lt x hx),rfl⟩) (fun _ _=>rfl)
  simpa [cellsB] using this
 ·exact⟨.inl hx,fun e=>by have:=hrep.fp_lt x hx;omega⟩
 intro a3 w3 ⟨i,I⟩
 have hi8:i≤8:=by have:=I.le;omega
 have μ3:(match a3.eval (.tmp 5) with | .int _ j=>8-j.toNat | _=>0)=8-i:=by rw[I.t5];simp
 refine wp_seq (wp_seq (wp_region ?_))
 rw[show List.range p2.size=[0,1] by rw[s2];rfl]
 refine wpOps_val ic0 gc0 (v:=.int .i64 i) (w':=w3) (by simp only[execOp,pc0];rw[I.t5];rfl) ?_
 rw[dc0]
 have q6:(a3.put (some 6) (.int .i64 i)).eval (.tmp 6)=.int .i64 i:=eval_put_same (by have:=I.n;omega) _
 have hlss:binV .lss (.int .i64 i) (.int .i64 8)=some (.bool (decide ((i:Int)<8))):=rfl
 refine wpOps_val ic1 gc1 (v:=.bool (decide ((i:Int)<8))) (w':=w3) ?_ ?_
 ·have:=(binV_run (P:=P) hlss ty1 (.tmp 6) (.const (.int .i64 8)) w3).1
  simp only[execOp,pc1,q6,show ∀(a':Act) (v:Value),a'.eval (.const v)=v from fun _ _=>rfl,Sem.run_bind] at this ⊢
  simp[this]
 rw[dc1]
 have q7:((a3.put (some 6) (.int .i64 i)).put (some 7) (.bool (decide ((i:Int)<8)))).eval (.tmp 7)=.bool (decide ((i:Int)<8)):=eval_put_same (by have:=I.n;rw[put_size];omega) _
 have r1:=evp_ne (d:=7) (.bool (decide ((i:Int)<8))) (evp_ne (d:=6) (.int .i64 i) I.t1 (by decide)) (by decide)
 have r2:=evp_ne (d:=7) (.bool (decide ((i:Int)<8))) (evp_ne (d:=6) (.int .i64 i) I.t2 (by decide)) (by decide)
 have r5:=evp_ne (d:=7) (.bool (decide ((i:Int)<8))) (evp_ne (d:=6) (.int .i64 i) I.t5 (by decide)) (by decide)
 have rn:((a3.put (some 6) (.int .i64 i)).put (some 7) (.bool (decide ((i:Int)<8)))).tmps.size=16:=by rw[put_size,put_size,I.n]
 have rd:((a3.put (some 6) (.int .i64 i)).put (some 7) (.bool (decide ((i:Int)<8)))).defers=[]:=by rw[put_defers,put_defers,I.df]
 generalize ((a3.put (some 6) (.int .i64 i)).put (some 7) (.bool (decide ((i:Int)<8))))=a4 at *
 refine wp_cond q7 ?_
 obtain⟨V,fp,hR,hND,hIN,hVR,hVO⟩:=I.rep
 by_cases hlt:i<8
 ·rw[show decide ((i:Int)<8)=true by simp;omega]
  refine wp_skip ?_
  obtain⟨q,hq⟩:∃q,els[i]?=some q:=⟨els[i],List.getElem?_eq_getElem (by omega)⟩
  have hqm:q∈els:=List.mem_of_getElem? hq
  have hdrop:els.drop i=q::els.drop (i+1):=by
   obtain⟨h1,h2⟩:=List.getElem?_eq_some_iff.1 hq
   rw[List.drop_eq_getElem_cons h1,h2]
  have htake:els.take (i+1)=els.take i++[q]:=by rw[List.take_add_one,hq];rfl
  have hcA:cellsA (els.drop i)=q.1.map AV.lit++([q.2.1]++cellsA (els.drop (i+1))):=by
   rw[hdrop];show (q.1.map AV.lit++[q.2.1])++cellsA (els.drop (i+1))=_
   rw[List.append_assoc]
  have hcB:cellsB (els.take (i+1))=cellsB (els.take i)++(q.1.map AV.lit++[q.2.2]):=by
   rw[htake];unfold cellsB;rw[List.flatMap_append];simp
  rw[hcA] at hR
  obtain⟨fa,fb,ua,ub,rfl,rfl,ra,rb⟩:=Rep.split _ hR
  obtain⟨fl,fc,ul,uc,rfl,rfl,rl,rc⟩:=Rep.split _ rb
  obtain⟨hul,rfl,-⟩:=rep_lits _ rl
  obtain⟨fd,fe,ud,ue,rfl,rfl,rd',re⟩:=Rep.split [q.2.1] rc
  obtain⟨u,rfl⟩:∃u,ud=[u]:=by
   match ud,rd'.len with
   | [u],_=>exact⟨u,rfl⟩
  have hua:ua.length=i*z:=by rw[ra.len,len_B (z:=z) fun x hx=>hz x (List.mem_of_mem_take hx),List.length_take,Nat.min_eq_left (by omega)]
  have hq1:=hz q hqm
  rw[←hul] at hq1
  have hTi:=hT i _ hq
  rw[←hul] at hTi hcB rl
  have hcell:∀(j:Nat) (x:Value),(ul++[u])[j]?=some x→w3.cell? ⟨wE.heap.size,i*z+j,none⟩=some x:=fun j x hj=>by
   refine cellAt I.hp ?_
   rw[List.getElem?_append_right (by omega),hua,Nat.add_sub_cancel_left,←List.append_assoc,List.getElem?_append_left]
   ·exact hj
   ·exact(List.getElem?_eq_some_iff.1 hj).1
  refine wp_seq (wp_block (wp_region ?_))
  rw[show List.range p4.size=[0,1,2,3,4,5] by rw[s4];rfl]
  refine wpOps_val id0 gd0 (v:=.int .i64 i) (w':=w3) (by simp only[execOp,pd0];rw[r5];rfl) ?_
  rw[dd0]
  have m10:(a4.put (some 10) (.int .i64 i)).eval (.tmp 10)=.int .i64 i:=eval_put_same (by omega) _
  have m2:=evp_ne (d:=10) (.int .i64 i) r2 (by decide)
  refine wpOps_val id1 gd1 (v:=.pointer (some ⟨wE.heap.size,i*z,none⟩)) (w':=w3) ?_ ?_
  ·simp only[execOp,pd1,m10,m2,Sem.run_bind,run_index_arr hta _ _ _ _ (show (0:Int)≤(i:Int) by omega) (show (i:Int)<((8:Nat):Int) by omega),Nat.zero_add,Int.toNat_natCast];rfl
  rw[dd1]
  refine wpOps_val id2 gd2 (v:=.agg (ul++[u]).toArray) (w':=w3) ?_ ?_
  ·have e11:((a4.put (some 10) (.int .i64 i)).put (some 11) (.pointer (some ⟨wE.heap.size,i*z,none⟩))).eval (.tmp 11)=.pointer (some ⟨wE.heap.size,i*z,none⟩):=eval_put_same (by rw[put_size];omega) _
   have:=run_loadVar_agg (P:=P) (w:=w3) htg hts wE.heap.size (i*z) (ul++[u]) (by simp;omega) hcell
   simp[execOp,pd2,e11,Instr.loadAt,Instr.sureAddr,this]
  rw[dd2]
  have m1:=evp_ne (d:=12) (.agg (ul++[u]).toArray) (evp_ne (d:=11) (.pointer (some ⟨wE.heap.size,i*z,none⟩)) (evp_ne (d:=10) (.int .i64 i) r1 (by decide)) (by decide)) (by decide)
  refine wpOps_val id3 gd3 (v:=kvs i) (w':=w3) (by simp only[execOp,pd3];rw[m1];rfl) ?_
  rw[dd3]
  have z2:=evp_ne (d:=13) (kvs i) (evp_ne (d:=12) (.agg (ul++[u]).toArray) (evp_ne (d:=11) (.pointer (some ⟨wE.heap.size,i*z,none⟩)) m2 (by decide)) (by decide)) (by decide)
  have z5:=evp_ne (d:=13) (kvs i) (evp_ne (d:=12) (.agg (ul++[u]).toArray) (evp_ne (d:=11) (.pointer (some ⟨wE.heap.size,i*z,none⟩)) (evp_ne (d:=10) (.int .i64 i) r5 (by decide)) (by decide)) (by decide)) (by decide)
  have z12:((((a4.put (some 10) (.int .i64 i)).put (some 11) (.pointer (some ⟨wE.heap.size,i*z,none⟩))).put (some 12) (.agg (ul++[u]).toArray)).put (some 13) (kvs i)).eval (.tmp 12)=.agg (ul++[u]).toArray:=evp_ne _ (eval_put_same (by rw[put_size,put_size];omega) _) (by decide)
  have z13:((((a4.put (some 10) (.int .i64 i)).put (some 11) (.pointer (some ⟨wE.heap.size,i*z,none⟩))).put (some 12) (.agg (ul++[u]).toArray)).put (some 13) (kvs i)).eval (.tmp 13)=kvs i:=eval_put_same (by rw[put_size,put_size,put_size];omega) _
  have zn:((((a4.put (some 10) (.int .i64 i)).put (some 11) (.pointer (some ⟨wE.heap.size,i*z,none⟩))).put (some 12) (.agg (ul++[u]).toArray)).put (some 13) (kvs i)).tmps.size=16:=by rw[put_size,put_size,put_size,put_size,rn]
  have zd:((((a4.put (some 10) (.int .i64 i)).put (some 11) (.pointer (some ⟨wE.heap.size,i*z,none⟩))).put (some 12) (.agg (ul++[u]).toArray)).put (some 13) (kvs i)).defers=[]:=by rw[put_defers,put_defers,put_defers,put_defers,rd]
  generalize ((((a4.put (some 10) (.int .i64 i)).put (some 11) (.pointer (some ⟨wE.heap.size,i*z,none⟩))).put (some 12) (.agg (ul++[u]).toArray)).put (some 13) (kvs i))=a5 at *
  refine wpOps_call id4 gd4 (f:=g) (args:=#[.agg (ul++[u]).toArray,kvs i]) (by rw[call_run zd pd4 hg hgb hgn];simp only[List.map_cons,List.map_nil,z12,z13]) ?_
  have rL:Rep V w3 K false (fa++[]) (ua++ul) (cellsB (els.take i)++ul.map AV.lit):=ra.app rl
  have hcall:=turn_mid hTi (by rw[nlk_app,nlk_lits,nlk_B fun x hx=>(hn x (List.mem_of_mem_take hx)).2];rfl) (nlk_A fun x hx=>(hn x (List.mem_of_mem_drop hx)).1) rL rd' re (by simpa using hND) hVR
  refine Calls.mono hcall fun e w4 ⟨he,V4,fp4,h1,h2,h3,h4,h5,h6⟩=>⟨kvs (i+1),he,?_⟩
  rw[dd4]
  refine wpOps_val id5 gd5 (v:=kvs (i+1)) (w':=w4) (by simp only[execOp,pd5];rw[eval_put_same (by omega)];rfl) ?_
  rw[dd5]
  have v1:((a5.put (some 14) (kvs (i+1))).put (some 1) (kvs (i+1))).eval (.tmp 1)=kvs (i+1):=eval_put_same (by rw[put_size];omega) _
  have v2:=evp_ne (d:=1) (kvs (i+1)) (evp_ne (d:=14) (kvs (i+1)) z2 (by decide)) (by decide)
  have v5:=evp_ne (d:=1) (kvs (i+1)) (evp_ne (d:=14) (kvs (i+1)) z5 (by decide)) (by decide)
  have vn:((a5.put (some 14) (kvs (i+1))).put (some 1) (kvs (i+1))).tmps.size=16:=by rw[put_size,put_size,zn]
  have vd:((a5.put (some 14) (kvs (i+1))).put (some 1) (kvs (i+1))).defers=[]:=by rw[put_defers,put_defers,zd]
  generalize ((a5.put (some 14) (kvs (i+1))).put (some 1) (kvs (i+1)))=a6 at *
  show Code.wp P _ _ a6 w4
  refine wp_region ?_
  rw[show List.range p3.size=[0,1,2] by rw[s3];rfl]
  refine wpOps_val ie0 ge0 (v:=.int .i64 i) (w':=w4) (by simp only[execOp,pe0];rw[v5];rfl) ?_
  rw[de0]
  have q8:(a6.put (some 8) (.int .i64 i)).eval (.tmp 8)=.int .i64 i:=eval_put_same (by omega) _
  have hadd:binV .add (.int .i64 i) (.int .i64 1)=some (.int .i64 (IntKind.i64.wrap ((i:Int)+1))):=rfl
  have hwr:IntKind.i64.wrap ((i:Int)+1)=((i+1:Nat):Int):=by rw[IntKind.wrap_i64];omega
  rw[hwr] at hadd
  refine wpOps_val ie1 ge1 (v:=.int .i64 ((i+1:Nat):Int)) (w':=w4) ?_ ?_
  ·have:=(binV_run (P:=P) hadd ty3 (.tmp 8) (.const (.int .i64 1)) w4).1
   simp only[execOp,pe1,q8,show ∀(a':Act) (v:Value),a'.eval (.const v)=v from fun _ _=>rfl,Sem.run_bind] at this ⊢
   simp[this]
  rw[de1]
  refine wpOps_val ie2 ge2 (v:=.int .i64 ((i+1:Nat):Int)) (w':=w4) (by simp only[execOp,pe2];rw[eval_put_same (by rw[put_size];omega)];rfl) ?_
  rw[de2]
  have t5':(((a6.put (some 8) (.int .i64 i)).put (some 9) (.int .i64 ((i+1:Nat):Int))).put (some 5) (.int .i64 ((i+1:Nat):Int))).eval (.tmp 5)=.int .i64 ((i+1:Nat):Int):=eval_put_same (by rw[put_size,put_size];omega) _
  have hgE:wE.heap.size<w3.heap.size:=(Array.getElem?_eq_some_iff.1 I.hp).1
  have hni:wE.heap.size∉fa++[]++(fd++fe):=fun h=>(hIN _ (by simpa using h)).2 rfl
  refine⟨⟨i+1,by omega,by rw[put_defers,put_defers,put_defers,vd],by rw[put_size,put_size,put_size,vn],evp_ne _ (evp_ne _ (evp_ne _ v1 (by decide)) (by decide)) (by decide),evp_ne _ (evp_ne _ (evp_ne _ v2 (by decide)) (by decide)) (by decide),t5',?_,?_,V4,fp4,?_,h3,fun x hx=>?_,h5,fun x hx hnx=>?_⟩,?_⟩
  ·rw[h1.old _ hgE hni]
   have:(ua++(ul++([u]++ue)))=(ua++([]++ul))++([u]++ue):=by simp
   exact I.hp
  ·refine⟨h1.os.trans I.fr.os,h1.tape.trans I.fr.tape,h1.output.trans I.fr.output,Nat.le_trans I.fr.sz h1.sz,fun x hx hnx=>?_⟩
   rw[h1.old x (Nat.lt_of_lt_of_le hx I.fr.sz) fun h=>?_,I.fr.old x hx hnx]
   rcases(hIN x (by simpa using h)).1 with h' | h'
   ·exact hnx h'
   ·omega
  ·have e3:cellsB (els.take (i+1))++cellsA (els.drop (i+1))=cellsB (els.take i)++ul.map AV.lit++([q.2.2]++cellsA (els.drop (i+1))):=by rw[hcB];simp
   have e4:ua++(ul++([u]++ue))=ua++ul++([u]++ue):=by simp
   rw[e3,e4];exact h2
  ·rcases h4 x hx with h | h
   ·exact hIN x (by simpa using h)
   ·exact⟨.inr (by omega),by omega⟩
  ·rw[h6 x (Nat.lt_of_lt_of_le hx I.fr.sz) fun h=>?_]
   ·exact hVO x hx hnx
   rcases(hIN x (by simpa using h)).1 with h' | h'
   ·exact hnx h'
   ·omega
  ·show (match Act.eval _ (.tmp 5) with | .int _ j=>8-j.toNat | _=>0)<(match a3.eval (.tmp 5) with | .int _ j=>8-j.toNat | _=>0)
   rw[μ3,t5']
   simp only[Int.toNat_natCast];omega
 ·have hie:i=8:=by omega
  subst hie
  rw[show decide (((8:Nat):Int)<8)=false from rfl]
  refine wp_exit ?_
  simp only[Exit.then,Exit.inBlock,if_true]
  refine wp_seq (wp_region ?_)
  rw[show List.range p5.size=[0,1] by rw[s5];rfl]
  refine wpOps_val if0 gf0 (v:=kvs 8) (w':=w3) (by simp only[execOp,pf0];rw[r1];rfl) ?_
  rw[df0]
  refine wpOps_val if1 gf1 (v:=kvs 8) (w':=w3) (by simp only[execOp,pf1];rw[eval_put_same (by omega)];rfl) ?_
  rw[df1]
  refine wp_ret ?_
  refine⟨by rw[put_defers,put_defers,rd],kvs 8,?_,rfl,V,fp,I.fr,?_,hND,fun x hx=>(hIN x hx).1,hVR,hVO⟩
  ·have:((a4.put (some 15) (kvs 8)).put (some 4) (kvs 8)).tmps.getD 4 undef=kvs 8:=getD_put_same _ 4 _ (by rw[put_size];omega)
   rw[Array.getD_eq_getD_getElem?] at this
   simp[results,hres,this]
  ·rw[List.take_of_length_le (by omega),List.drop_eq_nil_of_le (by omega)] at hR
   simpa [cellsA] using hR
end Evl
namespace Evl
open Go
variable {P:Program}{H:Hints}{fid:FuncId}{N:Nat}{w0 w w':World}{M:Nat→Prop}{V0 V V':Nat→Nat}{K K':Nat→Nat×Nat}{O O':Nat→Option Loc}{s:S}{a:Act}{fp:List Nat}{v:Value}{G:GP}
variable {ops:Array Oper}
theorem turns_wrap{f g tS tL:Nat}{fn gn:Func}{gc:Code}{i0 i1 i2:Nat}{p0 p1 p2:Array Oper}{k0:Value}{k size:Nat}
  (hf:P.funcs[f]?=some fn) (hb:fn.body=some (.seq (.region i0 p0 false) (.seq (.region i1 p1 false) (.seq (.region i2 p2 false) .ret)))) (hN:fn.ntmps=10) (hres:fn.results=#[.tmp 4])
  (hg : P.funcs[g]? = some gn) (hgb : gn.body = some gc) (hgn : (gn.name == "runtime.NumGoroutine") = false)
  (s0:p0.size=2) (s1:p1.size=5) (s2:p2.size=2)
  (a0:IsOp p0 0 2 (.box tS (.tmp 0))) (a1:IsOp p0 1 4 (.assign (.const k0)))
  (b0:IsOp p1 0 5 (.fieldAddr tS (.tmp 2) 0)) (b1:IsOp p1 1 6 (.load tL (.tmp 5))) (b2:IsOp p1 2 7 (.move (.tmp 1)))
  (b3:∃o,p1[3]?=some o∧o.dst=some 8∧calleeOf o botS=some (g,[.tmp 6,.tmp 7],[])∧o.guard=none) (b4:IsOp p1 4 1 (.assign (.tmp 8)))
  (c0:IsOp p2 0 9 (.move (.tmp 1))) (c1:IsOp p2 1 4 (.assign (.tmp 9)))
  (hfl:tfield P tS 0=some (0,size)) (hag:tagg P tL=some true) (hks:tsize P tL=some k)
  {Ts Ts':List AV} {kv rv:Value} {tl:List Value} (hk:Ts.length=k) (hT:TurnsOk P g (fun us=>#[.agg us.toArray,kv]) Ts rv Ts') :
  TurnsOk P f (fun us=>#[.agg us.toArray,kv]) (Ts++tl.map .lit) rv (Ts'++tl.map .lit):=by
 intro V w K fp us hrep hnd hvr
 obtain⟨fp,fq,us,ut,rfl,rfl,hr1,hlit⟩:=Rep.split _ hrep
 obtain⟨hut,rfl,hlx⟩:=rep_lits _ hlit
 rw[List.append_nil] at hnd ⊢
 have husl:us.length=k:=by rw[hr1.len,hk]
 refine calls_of_wp hf hb ?_
 obtain⟨oa0,ia0,da0,pa0,ga0⟩:=a0
 obtain⟨oa1,ia1,da1,pa1,ga1⟩:=a1
 obtain⟨ob0,ib0,db0,pb0,gb0⟩:=b0
 obtain⟨ob1,ib1,db1,pb1,gb1⟩:=b1
 obtain⟨ob2,ib2,db2,pb2,gb2⟩:=b2
 obtain⟨ob3,ib3,db3,pb3,gb3⟩:=b3
 obtain⟨ob4,ib4,db4,pb4,gb4⟩:=b4
 obtain⟨oc0,ic0,dc0,pc0,gc0⟩:=c0
 obtain⟨oc1,ic1,dc1,pc1,gc1⟩:=c1
 rw[hN]
 generalize ha:({ tmps:=#[.agg (us++ut).toArray,kv]++Array.replicate (10-(#[Value.agg (us++ut).toArray,kv]:Array Value).size) undef,defers:=[] }:Act)=a
 have had:a.defers=[]:=by rw[←ha]
 have hsz:a.tmps.size=10:=by rw[←ha];simp
 have e0:a.eval (.tmp 0)=.agg (us++ut).toArray:=by rw[←ha];rfl
 have e1:a.eval (.tmp 1)=kv:=by rw[←ha];rfl
 clear ha
 let w1:=w.alloc (.cells (us++ut).toArray tS)
 let ad:Value:=.pointer (some ⟨w.heap.size,0,none⟩)
 have hold:∀x,x<w.heap.size→w1.heap[x]?=w.heap[x]?:=fun x hx=>by
  simp only[w1,World.alloc,Array.getElem?_push];rw[if_neg (by omega)]
 have hh:w1.heap[w.heap.size]?=some (.cells (us++ut).toArray tS):=by
  show (w.heap.push _)[w.heap.size]?=_
  simp
 have hcell:∀(j:Nat) (x:Value),us[j]?=some x→w1.cell? ⟨w.heap.size,0+j,none⟩=some x:=fun j x hj=>by
  rw[Nat.zero_add]
  refine cellAt hh ?_
  rw[List.getElem?_append_left (List.getElem?_eq_some_iff.1 hj).1];exact hj
 have hw1:w.heap.size≤w1.heap.size:=by
  show w.heap.size≤(w.heap.push _).size
  simp
 refine wp_seq (wp_region ?_)
 rw[show List.range p0.size=[0,1] by rw[s0];rfl]
 refine wpOps_val ia0 ga0 (v:=ad) (w':=w1) ?_ (wpOps_val ia1 ga1 (v:=k0) (w':=w1) ?_ ?_)
 ·simp[execOp,pa0,Instr.box,newVar,newRow,e0,ad,w1,Value.cells]
 ·simp[execOp,pa1,Act.eval]
 rw[da0,da1]
 refine wp_seq (wp_region ?_)
 rw[show List.range p1.size=[0,1,2,3,4] by rw[s1];rfl]
 have q2:((a.put (some 2) ad).put (some 4) k0).eval (.tmp 2)=ad:=by rw[eval_put_other (by omega),eval_put_same (by omega)]
 have q1:((a.put (some 2) ad).put (some 4) k0).eval (.tmp 1)=kv:=by rw[eval_put_other (by omega),eval_put_other (by omega),e1]
 have qs:((a.put (some 2) ad).put (some 4) k0).tmps.size=10:=by rw[put_size,put_size,hsz]
 have qd:((a.put (some 2) ad).put (some 4) k0).defers=[]:=by rw[put_defers,put_defers,had]
 generalize ((a.put (some 2) ad).put (some 4) k0)=a2 at *
 refine wpOps_val ib0 gb0 (v:=.pointer (some ⟨w.heap.size,0,none⟩)) (w':=w1) ?_ ?_
 ·simp only[execOp,pb0,q2,Sem.run_bind]
  rw[show ad=.pointer (some ⟨w.heap.size,0,none⟩) from rfl,tfield_run hfl];rfl
 rw[db0]
 refine wpOps_val ib1 gb1 (v:=.agg us.toArray) (w':=w1) ?_ ?_
 ·have e5:(a2.put (some 5) (.pointer (some ⟨w.heap.size,0,none⟩))).eval (.tmp 5)=.pointer (some ⟨w.heap.size,0,none⟩):=by rw[eval_put_same (by omega)]
  have:=run_loadVar_agg (P:=P) (w:=w1) hag hks w.heap.size 0 us husl hcell
  simp[execOp,pb1,e5,Instr.loadAt,Instr.sureAddr,this]
 rw[db1]
 refine wpOps_val ib2 gb2 (v:=kv) (w':=w1) ?_ ?_
 ·simp only[execOp,pb2]
  rw[eval_put_other (by omega),eval_put_other (by omega),q1];rfl
 rw[db2]
 have hd3:(((a2.put (some 5) (.pointer (some ⟨w.heap.size,0,none⟩))).put (some 6) (.agg us.toArray)).put (some 7) kv).defers=[]:=by rw[put_defers,put_defers,put_defers,qd]
 have x6:(((a2.put (some 5) (.pointer (some ⟨w.heap.size,0,none⟩))).put (some 6) (.agg us.toArray)).put (some 7) kv).eval (.tmp 6)=.agg us.toArray:=by rw[eval_put_other (by omega),eval_put_same (by rw[put_size];omega)]
 have x7:(((a2.put (some 5) (.pointer (some ⟨w.heap.size,0,none⟩))).put (some 6) (.agg us.toArray)).put (some 7) kv).eval (.tmp 7)=kv:=by rw[eval_put_same (by rw[put_size,put_size];omega)]
 have xs:(((a2.put (some 5) (.pointer (some ⟨w.heap.size,0,none⟩))).put (some 6) (.agg us.toArray)).put (some 7) kv).tmps.size=10:=by rw[put_size,put_size,put_size,qs]
 generalize (((a2.put (some 5) (.pointer (some ⟨w.heap.size,0,none⟩))).put (some 6) (.agg us.toArray)).put (some 7) kv)=a3 at *
 have hrep1:Rep V w1 K false fp us Ts:=hr1.mono (fun x o ho=>by simp only[World.cell?,hold x (hvr x (by omega))]) (fun _=>Nat.le_refl _) hw1 (fun x hx=>⟨hold x (hr1.fp_lt x hx),rfl⟩) (fun _ _=>rfl)
 refine wpOps_call ib3 gb3 (f:=g) (args:=#[.agg us.toArray,kv]) (by rw[call_run hd3 pb3 hg hgb hgn];simp only[List.map_cons,List.map_nil,x6,x7]) ?_
 refine Calls.mono (hT V w1 K fp us hrep1 hnd fun x hx=>Nat.lt_of_lt_of_le (hvr x hx) hw1) fun e w2 ⟨he,V2,fp2,hfr,hr2,hn2,hi2,hv2,ho2⟩=>⟨rv,he,?_⟩
 rw[db3]
 refine wpOps_val ib4 gb4 (v:=rv) (w':=w2) (by simp only[execOp,pb4];rw[eval_put_same (by omega)];rfl) ?_
 rw[db4]
 refine wp_seq (wp_region ?_)
 rw[show List.range p2.size=[0,1] by rw[s2];rfl]
 refine wpOps_val ic0 gc0 (v:=rv) (w':=w2) (by simp only[execOp,pc0];rw[eval_put_same (by rw[put_size];omega)];rfl) ?_
 rw[dc0]
 refine wpOps_val ic1 gc1 (v:=rv) (w':=w2) (by simp only[execOp,pc1];rw[eval_put_same (by rw[put_size,put_size];omega)];rfl) ?_
 rw[dc1]
 refine wp_ret ?_
 refine⟨by rw[put_defers,put_defers,put_defers,put_defers,hd3],rv,?_,rfl,V2,fp2,?_,?_,hn2,fun x hx=>?_,hv2,fun x hx hn=>ho2 x (Nat.lt_of_lt_of_le hx hw1) hn⟩
 ·have:((((a3.put (some 8) rv).put (some 1) rv).put (some 9) rv).put (some 4) rv).tmps.getD 4 undef=rv:=getD_put_same _ 4 rv (by rw[put_size,put_size,put_size];omega)
  rw[Array.getD_eq_getD_getElem?] at this
  simp[results,hres,this]
 ·exact⟨hfr.os,hfr.tape,hfr.output,Nat.le_trans hw1 hfr.sz,fun x hx hn=>(hfr.old x (Nat.lt_of_lt_of_le hx hw1) hn).trans (hold x hx)⟩
 ·have hl2:Rep V2 w2 K false [] ut (tl.map .lit):=by
   subst hut
   exact hlit.still (nlk_lits _) (fun g hg=>by cases hg)
  have:=hr2.app hl2
  rwa [List.append_nil] at this
 ·rcases hi2 x hx with h | h
  ·exact .inl h
  ·exact .inr (Nat.le_trans hw1 h)
theorem lends(R:RelG N w0 M V0 K V O s a w)(hz:∀g,(w0.heap.size≤g∨M g)→V0 g=0)(hn:nlkS s){b:Nat}{x:Box}{cs':List AV}{f:FuncId}{mk:List Value→Array Value}{r:Value}
  (hb:s.b b=some x) (hx:x.cs≠[]) (hlen:cs'.length=x.cs.length) (hT:TurnsOk P f mk x.cs r cs') (hnT:∀c∈x.cs,∀b n,c≠.msl b n) :
  ∃us:List Value,us.length=x.cs.length∧(∀(j:Nat) (u:Value),us[j]?=some u→w.cell? ⟨(K b).1,j,none⟩=some u) ∧
   Calls P f (mk us) w fun e w'=>e=.returned r∧∃V' O',RelG N w0 M V0 K V' O' (setBx b { x with cs:=cs' } s) a w':=by
 obtain⟨fb,arr,Ty,fz,us,q1,q2,q3⟩:=R.bxr b x hb (.inr (.inl hx))
 obtain⟨k2,d2⟩:=List.nodup_cons.1 q1
 have hnall:=hn.2 b x hb
 have hulen:us.length=x.cs.length:=q3.rep.len
 have hcell:∀(j:Nat) (u:Value),us[j]?=some u→w.cell? ⟨(K b).1,j,none⟩=some u:=fun j u hj=>q3.cell hj
 have r2d:Rep V w K false fb us x.cs:=q3.rep.down hnT
 refine⟨us,hulen,hcell,Calls.mono (hT V w K fb us r2d d2 R.vr) fun e w' ⟨he,V',fp',hfr,hrep',hnd,hin,hvr,hvo⟩=>⟨he,?_⟩⟩
 have keep:∀g,g<w.heap.size→g∉fb→w'.heap[g]?=w.heap[g]?∧V' g=V g:=fun g h1 h2=>⟨hfr.old g h1 h2,hvo g h1 h2⟩
 have hf2O:∀g∈fb,O g=some (false,b):=fun g hg=>q2 g (by simp[hg])
 have hf2lt:∀g∈fb,g<w.heap.size:=r2d.fp_lt
 have hf2z:∀g∈fb,V0 g=0:=fun g hg=>hz g (R.rg g _ (hf2O g hg)).1
 have own_keep:∀g l,O g=some l→l≠(false,b)→w'.heap[g]?=w.heap[g]?∧V' g=V g:=fun g l hg hl=>keep g (R.rg g l hg).2 fun hin=>hl (by rw[hf2O g hin] at hg;cases hg;rfl)
 have hnew:∀g l,O g=some l→g∈fp'→g∈fb:=fun g l hg hp=>by
  rcases hin g hp with h | h
  ·exact h
  ·have:=(R.rg g l hg).2;omega
 refine⟨V',fun g=>if g∈fp' then some (false,b) else if g∈fb then none else O g,R.df,R.n,fun t=>?_,fun c y hc=>?_,fun g l hg=>?_,hvr,?_,?_,?_⟩
 ·obtain⟨fp,p1,p2,p3⟩:=R.tm t
  refine⟨fp,p1,fun g hg=>?_,p3.still (hn.1 t) fun g hg=>own_keep g _ (p2 g hg) (by simp)⟩
  have h2:g∉fb:=fun h=>by have:=hf2O g h;rw[p2 g hg] at this;cases this
  show (if g∈fp' then some (false,b) else if g∈fb then none else O g)=some (true,t)
  rw[if_neg (fun h=>h2 (hnew g _ (p2 g hg) h)),if_neg h2];exact p2 g hg
 ·by_cases hcb:c=b
  ·subst hcb
   simp only[setBx,if_true,Option.some.injEq] at hc
   subst hc
   have kb:=keep (K c).1 (R.rg _ _ (q2 _ List.mem_cons_self)).2 k2
   have old_or:∀g∈fp',∀h,h<w.heap.size→h∉fb→g≠h:=fun g hg h hl hn e=>by
    subst e
    rcases hin g hg with q | q
    ·exact hn q
    ·omega
   refine .inr ⟨fp',arr,Ty,fz,us,List.nodup_cons.2 ⟨fun h=>old_or _ h _ (R.rg _ _ (q2 _ List.mem_cons_self)).2 k2 rfl,hnd⟩,fun g hg=>?_,?_⟩
   ·show (if g∈fp' then some (false,c) else if g∈fb then none else O g)=some (false,c)
    by_cases h1:g∈fp'
    ·rw[if_pos h1]
    ·rw[if_neg h1]
     rcases List.mem_cons.1 hg with rfl | hg
     ·rw[if_neg k2];exact q2 _ List.mem_cons_self
     ·exact absurd hg h1
   ·refine⟨kb.1.trans q3.hp,q3.th,q3.pre,?_,?_,q3.var,q3.row⟩
    ·show Rep V' w' K (x.sz==0) fp' us cs'
     exact hrep'.up _ (fun e=>by cases e)
    ·show V' (K c).1=if x.st=true then 0 else cs'.length
     rw[kb.2,hlen];exact q3.vis
  ·have hcs:s.b c=some y:=by simpa [setBx,hcb] using hc
   rcases R.bx c y hcs with h | ⟨gb,arr2,T2,fz2,us2,p1,p2,p3⟩
   ·exact .inl h
   ·have hkk:∀g∈(K c).1::gb,w'.heap[g]?=w.heap[g]?∧V' g=V g:=fun g hg=>own_keep g _ (p2 g hg) (by simp[hcb])
    refine .inr ⟨gb,arr2,T2,fz2,us2,p1,fun g hg=>?_,⟨(hkk _ List.mem_cons_self).1.trans p3.hp,p3.th,p3.pre,p3.rep.still (hn.2 c y hcs) fun g hg=>hkk g (by simp[hg]),by rw[(hkk _ List.mem_cons_self).2];exact p3.vis,p3.var,p3.row⟩⟩
    have h2:g∉fb:=fun h=>by have:=hf2O g h;rw[p2 g hg] at this;cases this;exact hcb rfl
    show (if g∈fp' then some (false,b) else if g∈fb then none else O g)=some (false,c)
    rw[if_neg (fun h=>h2 (hnew g _ (p2 g hg) h)),if_neg h2];exact p2 g hg
 ·split at hg
  ·rename_i hp
   refine⟨?_,hrep'.fp_lt g hp⟩
   rcases hin g hp with h | h
   ·exact(R.rg g _ (hf2O g h)).1
   ·have:=R.fr.sz;exact .inl (by omega)
  ·split at hg
   ·cases hg
   ·exact⟨(R.rg g l hg).1,Nat.lt_of_lt_of_le (R.rg g l hg).2 hfr.sz⟩
 ·exact⟨hfr.os.trans R.fr.os,hfr.tape.trans R.fr.tape,hfr.output.trans R.fr.output,Nat.le_trans R.fr.sz hfr.sz,fun g hg hM=>by
   have h2:g∉fb:=fun h=>by
    rcases(R.rg g _ (hf2O g h)).1 with h' | h'
    ·omega
    ·exact hM h'
   rw[hfr.old g (Nat.lt_of_lt_of_le hg R.fr.sz) h2];exact R.fr.old g hg hM⟩
 ·refine⟨fun g off ho=>?_,fun g=>?_,Nat.le_trans R.nx.sz hfr.sz⟩
  ·rw[←R.nx.cell g off ho]
   have h2:g∉fb:=fun h=>by rw[hf2z g h] at ho;omega
   have hlt:g<w.heap.size:=R.vr g (by have:=R.nx.le g;omega)
   have:=hfr.old g hlt h2
   simp only[World.cell?,this]
  ·by_cases h0:V0 g=0
   ·omega
   ·have h2:g∉fb:=fun h=>h0 (hf2z g h)
    have hlt:g<w.heap.size:=R.vr g (by have:=R.nx.le g;omega)
    rw[hvo g hlt h2];exact R.nx.le g
 ·intro g hg hM
  have h2:g∉fb:=fun h=>by
   rcases(R.rg g _ (hf2O g h)).1 with h' | h'
   ·omega
   ·exact hM h'
  rw[hvo g (Nat.lt_of_lt_of_le hg R.fr.sz) h2];exact R.vo g hg hM
def marksS(b:Nat)(x:Box)(cs':List AV)(kv rv:Value)(dl dk dr da:Nat)(s:S):S :=
 stT da (.lit rv) (stT dr (.lit rv) (setBx b { x with cs:=cs' } (stT dk (.lit kv) (stT dl .bad s))))
theorem mc_marks(hG:∀M V0 w0,G M V0 w0→∀g,(w0.heap.size≤g∨M g)→V0 g=0){id p f tL dl dk dr da b:Nat}{xa xk:Operand}(m:MarkOps P ops p f tL xa xk dl dk dr da)
  {s s1:S} {lg:List LogE} (hch:Chain P G ops s lg s1) (hlg:lg.map (·.i)=List.range p) (hdst:∀x∈lg,x.dst=(ops[x.i]?).bind (·.dst))
  {x:Box} {cs':List AV} {kv rv:Value} {mk:List Value→Array Value} {ld:List Value→Value} (hk:s1.ev xk=.lit kv) (hb:s1.b b=some x) (hx:x.cs≠[]) (hlen:cs'.length=x.cs.length) (hn:nlkS s1) (hnT:∀c∈x.cs,∀b n,c≠.msl b n)
  (hT:TurnsOk P f mk x.cs rv cs') (hmk:∀us,mk us=#[ld us,kv]) (hrv:plain rv=true)
  (hld:∀{N w0 M V0 K V O a w},RelG N w0 M V0 K V O s1 a w→∀us:List Value,us.length=x.cs.length→(∀(j:Nat) (u:Value),us[j]?=some u→w.cell? ⟨(K b).1,j,none⟩=some u)→∀o:Oper,o.op=.load tL xa→(execOp a.eval o).run P w=.ok (.value (ld us)) w) :
  MC P G (.region id ops false) s .nor (marksS b x cs' kv rv dl dk dr da s1):=by
 intro N w0 M V0 V K O a w hg hok R Q hQ
 refine wp_region ?_
 obtain⟨o0,i0,d0,p0,g0⟩:=m.o0
 obtain⟨o1,i1,d1,p1,g1⟩:=m.o1
 obtain⟨o2,i2,d2,p2,g2⟩:=m.o2
 obtain⟨o3,i3,d3,p3,g3⟩:=m.o3
 obtain⟨fn,c,hf,hbd,hnm⟩:=m.fn
 have hN:∀(i:Nat) (o:Oper) (d:Nat),ops[i]?=some o→o.dst=some d→d<N:=fun i o d h e=>by
  simp only[codeOk,opsOk,Array.all_eq_true_iff_forall_mem] at hok
  have:=hok o (Array.mem_of_getElem? h)
  rw[e] at this;simpa using this
 have hr:List.range ops.size=lg.map (·.i)++[p,p+1,p+2,p+3]:=by
  rw[hlg,m.sz,show p+4=p+1+1+1+1 from rfl,List.range_succ,List.range_succ,List.range_succ,List.range_succ];simp
 rw[hr]
 have ahead:∀{s lg s1} (_:Chain P G ops s lg s1) (_:∀x∈lg,x.dst=(ops[x.i]?).bind (·.dst)) {V K O a w},RelG N w0 M V0 K V O s a w→∀(rest:List Nat),(∀a' w' K' V' O',RelG N w0 M V0 K' V' O' s1 a' w'→(∀b,1000≤b→K' b=K b)→wpOps P ops Q rest a' w')→wpOps P ops Q (lg.map (·.i)++rest) a w:=by
  intro s lg s1 h
  induction h with
  | nil s=>intro _ V K O a w R rest hq;exact hq a w K V O R fun _ _=>rfl
  | cons s x lg s2 he _ ih =>
   intro hdst V K O a w R rest hq
   simp only[List.map_cons,List.cons_append,wpOps_cons]
   refine he N w0 M V0 V K O s a w hg R ⟨fun _ _=>rfl,fun _ _=>rfl⟩ (fun d hd=>?_) Q _ fun a' w' K' V' O' R' hK=>ih (fun y hy=>hdst y (by simp[hy])) R' rest fun a'' w'' K'' V'' O'' R'' hK''=>hq _ _ _ _ _ R'' fun b hb=>(hK'' b hb).trans (hK b hb)
   have:=hdst x (by simp)
   rw[hd] at this
   cases ho:ops[x.i]? with
   | none=>rw[ho] at this;cases this
   | some o=>rw[ho] at this;exact hN _ o d ho (by simpa using this.symm)
 refine ahead hch hdst R _ fun a1 w1 K1 V1 O1 R1 hK1=>?_
 obtain⟨u,hul,hcell,-⟩:=lends R1 (hG _ _ _ hg) hn hb hx hlen hT hnT
 have hdl:=hN _ _ _ i0 d0
 have hdk:=hN _ _ _ i1 d1
 have hdr:=hN _ _ _ i2 d2
 have hda:=hN _ _ _ i3 d3
 have hN1:=R1.n
 refine wpOps_val i0 g0 (hld R1 u hul hcell o0 p0) ?_
 rw[d0]
 obtain⟨O2,R2⟩:=R1.stT dl hdl .bad (ld u) (.bad _)
 have hkv2:(a1.put (some dl) (ld u)).eval xk=kv∧plainX kv=true:=by
  have hev:(stT dl .bad s1).ev xk=.lit kv:=by
   rw[←hk]
   cases xk with
   | tmp t =>
    have:t≠dl:=fun e=>m.ne.2 (by rw[e])
    simp[S.ev,stT,this]
   | _=>rfl
  obtain⟨f1,_,_,_,h1⟩:=R2.ev xk
  rw[hev] at h1
  exact⟨(inv_lit h1).1,(inv_lit h1).2.2⟩
 refine wpOps_val i1 g1 (v:=kv) (w':=w1) (by simp[execOp,p1,hkv2.1]) ?_
 rw[d1]
 obtain⟨O3,R3⟩:=R2.stT dk hdk (.lit kv) kv (.litX hkv2.2)
 have hn3:nlkS (stT dk (.lit kv) (stT dl .bad s1)):=⟨fun t=>by
  simp only[stT]
  split
  ·rfl
  ·split
   ·rfl
   ·exact hn.1 t,hn.2⟩
 obtain⟨u3,hul3,hcell3,hcall⟩:=lends R3 (hG _ _ _ hg) hn3 (b:=b) (x:=x) hb hx hlen hT hnT
 have hu:u3=u:=by
  refine List.ext_getElem (hul3.trans hul.symm) fun j h1 h2=>?_
  have g1:=hcell3 j _ (List.getElem?_eq_getElem h1)
  have g2:=hcell j _ (List.getElem?_eq_getElem h2)
  rw[g1] at g2;exact Option.some.inj g2
 subst hu
 have hargs:([.tmp dl,.tmp dk]:List Operand).map ((a1.put (some dl) (ld u3)).put (some dk) kv).eval=[ld u3,kv]:=by
  simp only[List.map_cons,List.map_nil]
  rw[eval_put_same (by rw[put_size,hN1];exact hdk),eval_put_other (Ne.symm m.ne.1),eval_put_same (by rw[hN1];exact hdl)]
 refine wpOps_call i2 g2 (f:=f) (args:=#[ld u3,kv]) (by rw[call_run R3.df p2 hf hbd hnm,hargs]) ?_
 rw[hmk] at hcall
 refine Calls.mono hcall fun e w2 ⟨he,V4,O4,R4⟩=>⟨rv,he,?_⟩
 rw[d2]
 obtain⟨O5,R5⟩:=R4.stT dr hdr (.lit rv) rv (.lit hrv)
 have hsz5:dr<((a1.put (some dl) (ld u3)).put (some dk) kv).tmps.size:=by rw[put_size,put_size,hN1];exact hdr
 refine wpOps_val i3 g3 (v:=rv) (w':=w2) (by simp only[execOp,p3,eval_put_same hsz5];rfl) ?_
 rw[d3]
 obtain⟨O6,R6⟩:=R5.stT da hda (.lit rv) rv (.lit hrv)
 exact hQ _ _ _ _ _ R6 hK1
end Evl
namespace Evl
open Go
variable {P:Program}{H:Hints}{Y:FuncId→List AV→(Nat→Option Box)→AV→(Nat→Option Box)→Prop}{fid:FuncId}{G:GP}
theorem marks_less{l:L}{b dl dk dr da:Nat}{x:Box}{cs':List AV}{kv rv:Value}(h1:lookup dl l.ts=none)(h2:lookup dk l.ts=none)(h3:lookup dr l.ts=none) :
  WkS (marksS b x cs' kv rv dl dk dr da l.toS) (⟨(da,.lit rv)::l.ts,(b,{ x with cs:=cs' })::l.bs⟩:L).toS:=by
 refine⟨fun i=>?_,fun c y hy=>?_⟩
 ·rw[L.toS_t]
  simp only[lookup,marksS,stT,setBx]
  by_cases ha:da=i
  ·subst ha;simp only[if_true];exact .inl (.inl (.inl rfl))
  ·rw[if_neg ha,if_neg (fun e=>ha e.symm)]
   by_cases hr:i=dr
   ·subst hr;rw[h3];exact .inl (.inl (.inr (.inl rfl)))
   ·rw[if_neg hr]
    by_cases hk:i=dk
    ·subst hk;rw[h2];exact .inl (.inl (.inr (.inl rfl)))
    ·rw[if_neg hk]
     by_cases hl:i=dl
     ·subst hl;rw[h1];exact .inl (.inl (.inr (.inl rfl)))
     ·rw[if_neg hl,L.toS_t];exact .inl (.inl (.inl rfl))
 ·rw[L.toS_b] at hy
  simp only[lookup] at hy
  simp only[marksS,stT,setBx]
  by_cases hb:b=c
  ·subst hb
   simp only[if_true,Option.some.injEq] at hy
   subst hy
   exact⟨_,if_pos rfl,rfl,rfl,wkCs_refl _⟩
  ·rw[if_neg hb] at hy
   rw[if_neg (fun e=>hb e.symm)]
   exact⟨y,by show l.toS.b c=_;rw[L.toS_b];exact hy,rfl,rfl,wkCs_refl _⟩
theorem x_marks{k:List Td}{Q:X→L→Prop}{l:L}{c:Code}{tL f dl dk dr da b:Nat}{xa xk:Operand}{cs cs':List AV}{kv rv:Value}
  (hfl:H.fl fid=true) (hzc:∀c s s',MC P (Gd H fid) c s .nor s'→H.zc fid c s s')
  (hr:(Code.isRegion false c,markOf (Code.opsOf c) 0,isFn P f,tagg P tL,tsize P tL)=(true,some (tL,xa,xk,f,dl,dk,dr,da),true,some true,some cs.length))
  (hs:(l.toS.ev xa,l.toS.ev xk,lookup dl l.ts,lookup dk l.ts,lookup dr l.ts)=(.ptr b 0,.lit kv,none,none,none))
  (hb:lookup b l.bs=some ⟨true,0,cs⟩) (hn:nlkLs l=true) (hx:cs≠[]) (hnT:∀c∈cs,∀b n,c≠.msl b n) (hlen:cs'.length=cs.length) (hrv:plain rv=true)
  (hT:TurnsOk P f (fun us=>#[.agg us.toArray,kv]) cs rv cs')
  (hw:Wk P H Y fid k Q ⟨(da,.lit rv)::l.ts,(b,⟨true,0,cs'⟩)::l.bs⟩):Wk P H Y fid (.code c::k) Q l:=by
 simp only[Prod.mk.injEq] at hr hs
 obtain⟨r1,r2,r3,r4,r5⟩:=hr
 obtain⟨s1,s2,s3,s4,s5⟩:=hs
 have hmc:MC P (Gd H fid) c l.toS .nor (marksS b ⟨true,0,cs⟩ cs' kv rv dl dk dr da l.toS):=by
  cases c <;> simp[Code.isRegion] at r1
  subst r1
  refine mc_marks (fun M V0 w0 h=>h.2 hfl) (markOf_ok r2 r3) (lg:=[]) (.nil _) rfl (by simp) s2 hb hx hlen (nlkLs_ok hn) hnT hT (fun us=>rfl) hrv ?_
  intro N w0 M V0 K V O a w R us hul hu o ho
  obtain⟨f1,_,_,_,h1⟩:=R.ev xa
  rw[s1] at h1
  obtain⟨e1,-⟩:=inv_ptr h1
  have hl:=run_loadVar_agg (P:=P) (w:=w) r4 r5 (K b).1 0 us hul (fun j v hj=>by rw[Nat.zero_add];exact hu j v hj)
  simp[execOp,ho,e1,Instr.loadAt,Instr.sureAddr,hl]
 refine x_zone r1 (hzc _ _ _ hmc) (u:=⟨(da,.lit rv)::l.ts,(b,⟨true,0,cs'⟩)::l.bs⟩) ?_ hw
 exact marks_less (l:=l) (b:=b) (x:=⟨true,0,cs⟩) (cs':=cs') (kv:=kv) (rv:=rv) (da:=da) s3 s4 s5
end Evl
namespace Evl.T
open Go Evl
variable {P:Program}
abbrev Dsk:=(Sol×Sol×Sol×Sol×Sol×Sol×Sol×Sol)×(Bool×Bool×Bool×Bool×Bool×Bool×Bool×Bool)
def preS (s:Sol):List Value:=[.bool s.inn,.int .i64 s.pl.A,.int .i64 s.pl.B,.int .i64 s.pl.C,.int .i64 s.pl.D]
def ownS (l:List Sol):AV:=.sl true 6 l.length ((eSol true).f l)
def elS (s:Sol)(l:List Sol):List Value×AV×AV:=(preS s,ownS s.kids,ownS l)
def deskB(d:Dsk):List Value:=[.bool d.2.1,.bool d.2.2.1,.bool d.2.2.2.1,.bool d.2.2.2.2.1,.bool d.2.2.2.2.2.1,.bool d.2.2.2.2.2.2.1,.bool d.2.2.2.2.2.2.2.1,.bool d.2.2.2.2.2.2.2.2]
def deskS(d:Dsk):List Sol:=[d.1.1,d.1.2.1,d.1.2.2.1,d.1.2.2.2.1,d.1.2.2.2.2.1,d.1.2.2.2.2.2.1,d.1.2.2.2.2.2.2.1,d.1.2.2.2.2.2.2.2]
def dskT (d:Dsk):List AV:=((deskS d).flatMap fun s=>(preS s).map AV.lit++[ownS s.kids])++(deskB d).map AV.lit
def markDk(mk:List Sol→Int→Option (Int×List Sol))(d:Dsk)(k:Int):Option (Int×Dsk) :=
 (mk d.1.1.kids k).bind fun v0=>(mk d.1.2.1.kids v0.1).bind fun v1=>(mk d.1.2.2.1.kids v1.1).bind fun v2=>(mk d.1.2.2.2.1.kids v2.1).bind fun v3=>(mk d.1.2.2.2.2.1.kids v3.1).bind fun v4=>(mk d.1.2.2.2.2.2.1.kids v4.1).bind fun v5=>(mk d.1.2.2.2.2.2.2.1.kids v5.1).bind fun v6=>(mk d.1.2.2.2.2.2.2.2.kids v6.1).bind fun v7 =>
  some (v7.1,(.mk d.1.1.inn d.1.1.pl v0.2,.mk d.1.2.1.inn d.1.2.1.pl v1.2,.mk d.1.2.2.1.inn d.1.2.2.1.pl v2.2,.mk d.1.2.2.2.1.inn d.1.2.2.2.1.pl v3.2,.mk d.1.2.2.2.2.1.inn d.1.2.2.2.2.1.pl v4.2,.mk d.1.2.2.2.2.2.1.inn d.1.2.2.2.2.2.1.pl v5.2,.mk d.1.2.2.2.2.2.2.1.inn d.1.2.2.2.2.2.2.1.pl v6.2,.mk d.1.2.2.2.2.2.2.2.inn d.1.2.2.2.2.2.2.2.pl v7.2),d.2)
theorem bind_s{α β:Type}{x:Option α}{f:α→Option β}{r:β}(h:x.bind f=some r):∃v,x=some v∧f v=some r:=Option.bind_eq_some_iff.1 h
theorem nlk_own(l:List Sol):nlk (ownS l)=true:=by
 show nlkL ((eSol true).f l)=true
 exact nLk l
theorem markDk_ok{mk:List Sol→Int→Option (Int×List Sol)}{g f8 f:FuncId}
  (hmk:∀(l:List Sol) (k:Int) (r:Int×List Sol),mk l k=some r→∀pre:List Value,pre.length=5→TurnOk P g (fun u=>#[.agg (pre++[u]).toArray,.int .i64 k]) (ownS l) (.int .i64 r.1) (ownS r.2))
  (h8:∀{els:List (List Value×AV×AV)} {kvs:Nat→Value},els.length=8→(∀q∈els,q.1.length+1=6)→(∀q∈els,nlk q.2.1=true∧nlk q.2.2=true) →
   (∀i q,els[i]?=some q→TurnOk P g (fun u=>#[.agg (q.1++[u]).toArray,kvs i]) q.2.1 (kvs (i+1)) q.2.2)→TurnsOk P f8 (fun us=>#[.agg us.toArray,kvs 0]) (cellsA els) (kvs 8) (cellsB els))
  (hD:∀{Ts Ts':List AV} {kv rv:Value} {tl:List Value},Ts.length=48→TurnsOk P f8 (fun us=>#[.agg us.toArray,kv]) Ts rv Ts'→TurnsOk P f (fun us=>#[.agg us.toArray,kv]) (Ts++tl.map .lit) rv (Ts'++tl.map .lit))
  {d:Dsk} {k:Int} {r:Int×Dsk} (h:markDk mk d k=some r) :
  TurnsOk P f (fun us=>#[.agg us.toArray,.int .i64 k]) (dskT d) (.int .i64 r.1) (dskT r.2):=by
 obtain⟨⟨s0,s1,s2,s3,s4,s5,s6,s7⟩,b⟩:=d
 unfold markDk at h
 obtain⟨v0,h0,h⟩:=bind_s h
 obtain⟨v1,h1,h⟩:=bind_s h
 obtain⟨v2,h2,h⟩:=bind_s h
 obtain⟨v3,h3,h⟩:=bind_s h
 obtain⟨v4,h4,h⟩:=bind_s h
 obtain⟨v5,h5,h⟩:=bind_s h
 obtain⟨v6,h6,h⟩:=bind_s h
 obtain⟨v7,h7,h⟩:=bind_s h
 cases h
 have key:=h8 (els:=[elS s0 v0.2,elS s1 v1.2,elS s2 v2.2,elS s3 v3.2,elS s4 v4.2,elS s5 v5.2,elS s6 v6.2,elS s7 v7.2]) (kvs:=fun i=>.int .i64 ([k,v0.1,v1.1,v2.1,v3.1,v4.1,v5.1,v6.1,v7.1].getD i 0)) rfl
  (fun q hq=>by
   simp only[List.mem_cons,List.not_mem_nil,or_false] at hq
   rcases hq with rfl | rfl | rfl | rfl | rfl | rfl | rfl | rfl <;> rfl)
  (fun q hq=>by
   simp only[List.mem_cons,List.not_mem_nil,or_false] at hq
   rcases hq with rfl | rfl | rfl | rfl | rfl | rfl | rfl | rfl <;> exact⟨nlk_own _,nlk_own _⟩)
  (fun i q hq=>by
   match i,hq with
   | 0,hq=>cases hq;exact hmk _ _ _ h0 _ rfl
   | 1,hq=>cases hq;exact hmk _ _ _ h1 _ rfl
   | 2,hq=>cases hq;exact hmk _ _ _ h2 _ rfl
   | 3,hq=>cases hq;exact hmk _ _ _ h3 _ rfl
   | 4,hq=>cases hq;exact hmk _ _ _ h4 _ rfl
   | 5,hq=>cases hq;exact hmk _ _ _ h5 _ rfl
   | 6,hq=>cases hq;exact hmk _ _ _ h6 _ rfl
   | 7,hq=>cases hq;exact hmk _ _ _ h7 _ rfl
   | i+8,hq=>simp at hq)
 exact hD (tl:=deskB ((s0,s1,s2,s3,s4,s5,s6,s7),b)) rfl key
theorem dskT_len(d:Dsk):(dskT d).length=56:=rfl
theorem dskT_ne(d:Dsk):dskT d≠[]:=fun h=>by have:=congrArg List.length h;rw[dskT_len] at this;cases this
theorem dskT_msl(d:Dsk):∀c∈dskT d,∀b n,c≠AV.msl b n:=by
 intro c hc b n e
 subst e
 simp[dskT,deskS,deskB,preS,ownS] at hc
end Evl.T
